/- slices.Contains of values; comps.Round, walked. -/
import Derived.Test.YtnpbdabboecpaaaN5
import Derived.Test.YtnpbdabboecpaaaGc
import Derived.Test.YtnpbdabboecpaaaD0
namespace Go.Proofs.Ytnpbdabboecpaaa
open Go.RowKit Go.Shelf Tarj

def IdxSays (l : List V) (y : V) (e : Ending) : Prop := ∃ k : Int, e = .returned (.int .i64 k) ∧ -1 ≤ k ∧ (0 ≤ k ↔ y ∈ l)
set_option maxRecDepth 100000 in
set_option maxHeartbeats 1000000 in
theorem indexV_any (w : World) (v : Value) (l : List V) (y : V) (hl : IsVals w v l) :
    Calls Try.prog 57 #[v, .agg #[.bool y.ref, .int .i64 y.n]] w fun e w' => IdxSays l y e ∧ Below w.heap.size w w' := by
  obtain ⟨a, cap, rfl, hc⟩ := hl.slice
  have Hl := Lib.hid hl
  clear hl
  have hM0 := (Mem.start w).alloc #[.bool y.ref, .int .i64 y.n] 60
  have hB := Lib.hid hM0.below
  obtain ⟨r, n⟩ := y
  go_enter Try.func57, Try.ntmps57
  go_wp2
  go_loopw [5, 8] (fun _ i wr => ∃ k : Nat, k ≤ l.length ∧ i = .int .i64 k ∧ Hid ((⟨r, n⟩ : V) ∉ l.take k) ∧ Mem w.heap.size w wr [ebox w.heap.size #[.bool r, .int .i64 n] 60]) (fun _ i _ => l.length - (intOf i).toNat)
  case atStart => exact ⟨0, Nat.zero_le _, rfl, Lib.hid (by simp), hM0⟩
  case round =>
    clear hB
    obtain ⟨k, hk, rfl, hno, hM⟩ := hrel
    by_cases hlt : k < l.length
    · obtain ⟨x, hx⟩ := get_some _ _ hlt
      obtain ⟨bl, off, cap2, hv, hb, hn, c1, c2, hi⟩ := Hl.out.at hM.below hx
      cases hv
      have p0 : wr.cell? ⟨w.heap.size, 0, none⟩ = some (.bool r) := by have := hM.cell 0 rfl 0; simpa using this
      have p1 : wr.cell? ⟨w.heap.size, 1, none⟩ = some (.int .i64 n) := by have := hM.cell 0 rfl 1; simpa using this
      have hxm := Lib.hid (List.mem_of_getElem? hx)
      have HS := Lib.hid (take_succ_some _ _ _ hx)
      have HMw := Lib.hid hM
      clear hx hM0 hM
      obtain ⟨rx, nx⟩ := x
      by_cases he : r = rx ∧ n = nx
      · obtain ⟨rfl, rfl⟩ := he
        go_wp2
        go_quiet (fail)
        go_wp2
        go_ret
        exact ⟨⟨k, rfl, by omega, fun _ => hxm.out, fun _ => by omega⟩, HMw.out.below.trans ⟨rfl, rfl, rfl, Nat.le_refl _, fun _ _ => rfl⟩⟩
      · have Hn : Hid ((⟨r, n⟩ : V) ∉ l.take (k + 1)) := Lib.hid (by
          rw [HS.out]
          intro hm
          rcases List.mem_append.1 hm with hm | hm
          · exact hno.out hm
          · have := List.mem_singleton.1 hm
            cases this; exact he ⟨rfl, rfl⟩)
        cases r <;> cases rx
        · have hn : ¬ n = nx := fun e => he ⟨rfl, e⟩
          clear he
          go_wp2
          go_quiet (fail)
          go_wp2
          go_roundw
          case rel => exact ⟨k + 1, by omega, by go_num, Hn, HMw.out.drewN _⟩
          case measure => simp [intOf]; omega
        · clear he
          go_wp2
          go_quiet (fail)
          go_wp2
          go_roundw
          case rel => exact ⟨k + 1, by omega, by go_num, Hn, HMw.out.drewN _⟩
          case measure => simp [intOf]; omega
        · clear he
          go_wp2
          go_quiet (fail)
          go_wp2
          go_roundw
          case rel => exact ⟨k + 1, by omega, by go_num, Hn, HMw.out.drewN _⟩
          case measure => simp [intOf]; omega
        · have hn : ¬ n = nx := fun e => he ⟨rfl, e⟩
          clear he
          go_wp2
          go_quiet (fail)
          go_wp2
          go_roundw
          case rel => exact ⟨k + 1, by omega, by go_num, Hn, HMw.out.drewN _⟩
          case measure => simp [intOf]; omega
    · obtain rfl : k = l.length := by omega
      have Hn : Hid ((⟨r, n⟩ : V) ∉ l) := Lib.hid (fun h => hno.out (by rw [List.take_length]; exact h))
      have HMw := Lib.hid hM
      clear hM hM0
      go_wp2
      go_ret
      exact ⟨⟨-1, rfl, by omega, fun h => by omega, fun h => (Hn.out h).elim⟩, HMw.out.below⟩

def HasVSays (l : List V) (y : V) (e : Ending) : Prop := ∃ b : Bool, e = .returned (.bool b) ∧ (b = true ↔ y ∈ l)
set_option maxRecDepth 100000 in
theorem containsV_any (w : World) (v : Value) (l : List V) (y : V) (hl : IsVals w v l) :
    Calls Try.prog 39 #[v, .agg #[.bool y.ref, .int .i64 y.n]] w fun e w' => HasVSays l y e ∧ Below w.heap.size w w' := by
  obtain ⟨a, cap, rfl, hc⟩ := hl.slice
  have hM0 := (Mem.start w).alloc #[.bool y.ref, .int .i64 y.n] 60
  have HM := Lib.hid hM0
  have HI := Lib.hid (indexV_any _ _ l y (hl.later hM0.below))
  clear hl hM0
  go_enter Try.func39, Try.ntmps39
  go_wp2_with fail
  refine HI.out.mono ?_
  rintro e w1 ⟨⟨k, rfl, hk1, hk⟩, hb⟩
  have HB := Lib.hid (HM.out.call hb).below
  have Hk := Lib.hid hk
  clear hk hb
  go_wp2
  go_ret
  exact ⟨⟨_, rfl, by simpa using Hk.out⟩, HB.out⟩

open Classical in
/-- Those of the first k that go round. -/
noncomputable def rndL (g : G) (k : Nat) : List Int := ((List.range k).map fun i : Nat => (i : Int)).filter fun i => decide (Rnd (EG g) i)
theorem rndL_yes {g : G} {k : Nat} (h : Rnd (EG g) (k : Int)) : rndL g (k + 1) = rndL g k ++ [(k : Int)] := by
  unfold rndL
  rw [List.range_succ, List.map_append, List.filter_append]
  congr 1
  simp only [List.map_cons, List.map_nil]
  rw [List.filter_cons_of_pos (by simpa using h)]
  rfl
theorem rndL_no {g : G} {k : Nat} (h : ¬ Rnd (EG g) (k : Int)) : rndL g (k + 1) = rndL g k := by
  unfold rndL
  rw [List.range_succ, List.map_append, List.filter_append]
  simp only [List.map_cons, List.map_nil]
  rw [List.filter_cons_of_neg (by simpa using h)]
  simp
theorem rndL_len (g : G) (k : Nat) : (rndL g k).length ≤ k := by
  unfold rndL
  refine Nat.le_trans (List.length_filter_le _ _) ?_
  simp
theorem mem_rndL {g : G} {k : Nat} {x : Int} : x ∈ rndL g k ↔ (0 ≤ x ∧ x < k) ∧ Rnd (EG g) x := by
  unfold rndL
  rw [List.mem_filter, List.mem_map]
  constructor
  · rintro ⟨⟨i, hi, rfl⟩, h⟩
    exact ⟨by have := List.mem_range.1 hi; omega, by simpa using h⟩
  · rintro ⟨⟨h1, h2⟩, h⟩
    exact ⟨⟨x.toNat, List.mem_range.2 (by omega), by omega⟩, by simpa using h⟩
theorem rndL_rising (g : G) (k : Nat) : (rndL g k).Pairwise (· < ·) := by
  unfold rndL
  refine List.Pairwise.filter _ ?_
  rw [List.pairwise_map]
  exact List.pairwise_lt_range.imp (fun h => by omega)

set_option maxRecDepth 100000 in
set_option maxHeartbeats 4000000 in
theorem round_yes (g : G) (hG : Good g) (v : Value) (w : World) (hg : IsGraph w v g) :
    Calls Try.prog 24 #[v] w fun e w' => ∃ vl, e = .returned (.tuple #[vl, .int .i64 0]) ∧ (∃ comp all, Res (EG g) g.objs.length comp all) ∧ Mem w.heap.size w w' [rowI 3 vl (rndL g g.objs.length)] := by
  have hg0 := hg
  obtain ⟨vo, vr, rfl, ho, hr⟩ := hg
  obtain ⟨ao, co, rfl, hlo⟩ := ho.slice
  obtain ⟨ar, cr, rfl, hlr⟩ := hr.slice
  have Hg := Lib.hid hg0
  have HG := Lib.hid hG
  have Ho := Lib.hid ho
  have hn := hG.objs
  clear ho hr hg0 hG
  have hM0 := (Mem.start w).alloc #[.slice ao g.objs.length co, .slice ar g.roots.length cr] 25
  go_enter Try.func24, Try.ntmps24
  go_wp2_with fail
  refine (gcheck_yes _ g _ (Hg.out.later hM0.below) HG.out).mono ?_
  rintro e w1 ⟨rfl, hb⟩
  have hM1 := hM0.call hb
  have p0 : w1.cell? ⟨w.heap.size, 0, none⟩ = some (.slice ao g.objs.length co) := by have := hM1.cell 0 rfl 0; simpa using this
  have p1 : w1.cell? ⟨w.heap.size, 1, none⟩ = some (.slice ar g.roots.length cr) := by have := hM1.cell 0 rfl 1; simpa using this
  go_wp2_with fail
  refine (foundC_any g HG.out _ _ w1 (Hg.out.later hM1.below)).mono ?_
  rintro e w2 ⟨Bs, vL, vA, vst, vC, va, comp, fs, rfl, hR, hcl, hM2⟩
  have hM3 := (hM1.callMem hM2).nilI 3
  have p0 : w2.cell? ⟨w.heap.size, 0, none⟩ = some (.slice ao g.objs.length co) := by have := hM3.boxCell (b := w.heap.size) (c := #[.slice ao g.objs.length co, .slice ar g.roots.length cr]) (t := 25) (by simp) 0 rfl; exact this
  have HM3 := Lib.hid hM3
  have HR := Lib.hid hR
  have Hcl := Lib.hid hcl
  clear hM0 hM1 hM2 hM3 hb hR hcl
  obtain ⟨T, hT⟩ : ∃ T, rowsI fs ++ [ebox w.heap.size #[.slice ao g.objs.length co, .slice ar g.roots.length cr] 25] = T := ⟨_, rfl⟩
  have hM3 : Mem w.heap.size w w2 (rowI 3 (.slice none 0 0) [] :: ebox Bs #[.slice ao g.objs.length co, .slice ar g.roots.length cr, vL, vA, vst, vC, va] 66 :: rowI 3 vC comp :: rowR va (fs.map (·.1)) :: T) := by
    have h := HM3.out
    rw [← hT]
    simpa using h
  have HM4 := Lib.hid hM3
  have HT := Lib.hid hT
  clear hM3 HM3 hT
  go_wp2
  go_loopw [6, 7, 8, 19] (fun s6 s7 s8 s19 wr => ∃ k : Nat, k ≤ g.objs.length ∧ s19 = .int .i64 (k : Int) ∧ Mem w.heap.size w wr (rowI 3 s6 (rndL g k) :: ebox Bs #[.slice ao g.objs.length co, .slice ar g.roots.length cr, vL, vA, vst, vC, va] 66 :: rowI 3 vC comp :: rowR va (fs.map (·.1)) :: T)) (fun _ _ _ i _ => g.objs.length - (intOf i).toNat)
  case atStart => exact ⟨0, Nat.zero_le _, rfl, HM4.out⟩
  case round =>
    clear HM4
    obtain ⟨k, hk, rfl, hM⟩ := hrel
    by_cases hlt : k < g.objs.length
    · obtain ⟨ob, hob⟩ := get_some _ _ hlt
      obtain ⟨bo, oo, cap3, uo, hv2, hbo, hn3, c2, huo⟩ := Ho.out.at hM.below hob
      cases hv2
      obtain ⟨af, cf, rfl, hlf⟩ := huo.slice
      have hc0 := HR.out.rng (k : Int) (by omega) (by omega)
      have hc1 := HR.out.ltl (k : Int)
      rw [List.length_map] at hc1
      obtain ⟨ck, hck⟩ := get_some comp k (by rw [Hcl.out]; exact hlt)
      have hck2 : rd comp (-1) (k : Int) = ck := rd_some hck
      rw [hck2] at hc0 hc1
      obtain ⟨m, rfl⟩ : ∃ m : Nat, ck = (m : Int) := ⟨ck.toNat, by omega⟩
      obtain ⟨⟨vm, cm⟩, hfm⟩ := get_some fs m (by omega)
      have hrnd := HR.out.round hck2 (show (fs.map (·.2))[m]? = some cm by rw [List.getElem?_map, hfm]; rfl)
      obtain ⟨am, cmc, hvm⟩ : ∃ a c, vm = .slice a cm.length c := by
        refine hM.intsSlice (e := 3) (4 + m) ?_
        rw [← HT.out, show 4 + m = m + 1 + 1 + 1 + 1 by omega]
        simp only [List.getElem?_cons_succ]
        rw [List.getElem?_append_left (by rw [rowsI_len]; omega)]
        exact rowsI_get hfm
      subst hvm
      have hE : EG g (k : Int) (k : Int) ↔ (⟨true, (k : Int)⟩ : V) ∈ ob := by
        unfold EG
        have hfo : fieldsAt g (k : Int) = ob := by unfold fieldsAt; rw [Int.toNat_natCast, List.getD_eq_getElem?_getD, hob]; rfl
        rw [hfo, mem_targets_iff]
        constructor
        · rintro ⟨_, ⟨r, n⟩, hx, hr, hn⟩
          simp only at hr hn
          subst hr hn
          exact hx
        · intro hx
          exact ⟨by omega, _, hx, rfl, rfl⟩
      rw [hE] at hrnd
      have hne : fs.map (·.1) ≠ [] := by intro e; have := congrArg List.length e; simp at this; subst this; simp at hfm
      obtain ⟨gR, cR, hva⟩ : ∃ gR cR, va = .slice (some ⟨gR, 0, none⟩) fs.length cR := by
        have hr : wr.ownsRow w.heap.size 27 1 va (fs.map (·.1)).length (fs.map (·.1)) := hM.row 3 rfl
        rcases hr.2 with ⟨_, h0⟩ | ⟨g, cap, cur, h1, _⟩
        · exact (hne (List.eq_nil_of_length_eq_zero h0)).elim
        · exact ⟨g, cap, by rw [h1, List.length_map]⟩
      obtain ⟨gC, cC, hvC, _⟩ := hM.intsAt 2 rfl (by intro e; rw [e] at hck; simp at hck)
      rw [Hcl.out] at hvC
      subst hva hvC
      obtain ⟨p5, _⟩ := hM.intAt 2 rfl hck
      obtain ⟨p6, _⟩ := hM.rowCell 3 rfl (j := m) (x := .slice am cm.length cmc) (by rw [List.getElem?_map, hfm]; rfl)
      have p3 : wr.cell? ⟨Bs, 5, none⟩ = some (.slice (some ⟨gC, 0, none⟩) g.objs.length cC) := by have := hM.cell 1 rfl 5; simpa using this
      have p4 : wr.cell? ⟨Bs, 6, none⟩ = some (.slice (some ⟨gR, 0, none⟩) fs.length cR) := by have := hM.cell 1 rfl 6; simpa using this
      obtain ⟨nf, hnf⟩ : ∃ nf, fs.length = nf := ⟨_, rfl⟩
      obtain ⟨nm, hnm⟩ : ∃ nm, cm.length = nm := ⟨_, rfl⟩
      rw [hnf] at p4 hc1
      rw [hnm] at p6 hrnd
      have hM5 := hM.alloc_ (.cells #[.slice af ob.length cf] 50)
      have hM6 := hM.alloc #[.slice af ob.length cf] 50
      obtain ⟨W0, hW0⟩ : ∃ W0, wr.alloc (.cells #[.slice af ob.length cf] 50) = W0 := ⟨_, rfl⟩
      obtain ⟨bw, hbw⟩ : ∃ bw, wr.heap.size = bw := ⟨_, rfl⟩
      rw [hW0, hbw] at hM6
      rw [hW0] at hM5
      have e0 : W0.cell? ⟨Bs, 5, none⟩ = some (.slice (some ⟨gC, 0, none⟩) g.objs.length cC) := by have := hM5.cell 1 rfl 5; simpa using this
      have e1 : W0.cell? ⟨Bs, 6, none⟩ = some (.slice (some ⟨gR, 0, none⟩) nf cR) := by have := hM5.cell 1 rfl 6; rw [hnf] at this; simpa using this
      obtain ⟨e2, _⟩ := hM5.intAt 2 rfl hck
      obtain ⟨e3, _⟩ := hM5.rowCell 3 rfl (j := m) (x := .slice am cm.length cmc) (by rw [List.getElem?_map, hfm]; rfl)
      rw [hnm] at e3
      have e4 : W0.cell? ⟨bw, 0, none⟩ = some (.slice af ob.length cf) := by have := hM6.cell 0 rfl 0; simpa using this
      have hk1 : (0 : Int) ≤ (k : Int) := by omega
      have hk2 : (k : Int) < (g.objs.length : Int) := by omega
      have hm1 : (0 : Int) ≤ (m : Int) := by omega
      have hm2 : (m : Int) < (nf : Int) := by omega
      have hrl := rndL_len g k
      have HW0 := Lib.hid hW0
      have Hbw := Lib.hid hbw
      have HM5 := Lib.hid hM5
      have HRn := Lib.hid hrnd
      have HC := Lib.hid (containsV_any W0.drew _ ob ⟨true, (k : Int)⟩ ((huo.later hM5.below).later (Below.refl _ _).drew))
      clear hM hM5 hM6 hob huo hE hrnd hfm hck hck2 hW0 hbw hnf hnm hne p3 p4 p5 p6
      obtain ⟨W1, hW1⟩ : ∃ W1, W0.drew = W1 := ⟨_, rfl⟩
      have HM6 := Lib.hid HM5.out.drew
      rw [hW1] at HM6 HC
      have HW1 := Lib.hid hW1
      clear hW1 HM5
      by_cases h1 : 1 < nm
      · have hr := HRn.out.2 (.inl h1)
        have Hy := Lib.hid (rndL_yes hr)
        have hd : decide ((1 : Int) < (nm : Int)) = true := by simpa using (show (1 : Int) < (nm : Int) by omega)
        have hd2 : (1 : Int) < (nm : Int) := by omega
        clear hr h1
        go_wp2_with fail
        rw [HW0.out, Hbw.out]
        go_still_tail 20, (by kernel_rfl)
        change wpList _ _ _ _ _ W0.drew
        rw [HW1.out]
        go_wp2_with (at_builtin; refine Mem.wp_appI elemInts rfl (.tmp 46) (.tmp 48) rfl HM6.out 0 rfl rfl _ (k : Int) _ _ rfl (by simp) (by omega) ?_; intro ad n1 cp w3 hn1 hM7 hs1 hk1 ha1)
        go_roundw
        case rel => exact ⟨k + 1, by omega, by go_num, hM7.cast (by rw [Hy.out]; rfl)⟩
        case measure => simp [intOf]; omega
      · have hd : decide ((1 : Int) < (nm : Int)) = false := by simpa using (show ¬ (1 : Int) < (nm : Int) by omega)
        have hd2 : ¬ (1 : Int) < (nm : Int) := by omega
        have H1 := Lib.hid h1
        clear h1
        go_wp2_with fail
        rw [HW0.out, Hbw.out]
        go_still_tail 20, (by kernel_rfl)
        change wpList _ _ _ _ _ W0.drew
        rw [HW1.out]
        go_wp2_with fail
        refine HC.out.mono ?_
        rintro e w3 ⟨⟨b, rfl, hb⟩, hb3⟩
        have HM7 := Lib.hid (HM6.out.call hb3)
        have Hb := Lib.hid hb
        clear hb hb3
        cases b with
        | true =>
          have Hy := Lib.hid (rndL_yes (HRn.out.2 (.inr (Hb.out.1 rfl))))
          go_wp2_with (at_builtin; refine Mem.wp_appI elemInts rfl (.tmp 46) (.tmp 48) rfl HM7.out 0 rfl rfl _ (k : Int) _ _ rfl (by simp) (by omega) ?_; intro ad n1 cp w4 hn1 hM8 hs1 hk1 ha1)
          go_roundw
          case rel => exact ⟨k + 1, by omega, by go_num, hM8.cast (by rw [Hy.out]; rfl)⟩
          case measure => simp [intOf]; omega
        | false =>
          have Hy := Lib.hid (rndL_no (fun h => by
            rcases HRn.out.1 h with h | h
            · exact H1.out h
            · have := Hb.out.2 h; cases this))
          go_wp2
          go_roundw
          case rel => exact ⟨k + 1, by omega, by go_num, HM7.out.cast (by rw [Hy.out])⟩
          case measure => simp [intOf]; omega
    · obtain rfl : k = g.objs.length := by omega
      obtain ⟨al, nl, cl, rfl⟩ := own_slice (hM.ownI 0 rfl)
      have HM5 := Lib.hid (hM.drop (List.Sublist.cons_cons _ (List.nil_sublist _)))
      clear hM
      go_wp2
      go_ret2
      exact ⟨_, rfl, ⟨_, _, HR.out⟩, HM5.out⟩
set_option maxRecDepth 100000 in
theorem round_bad (g : G) (hG : ¬ Good g) (v : Value) (w : World) (hg : IsGraph w v g) :
    Calls Try.prog 24 #[v] w fun e w' => ∃ c : Int, (c == 0) = false ∧ e = .returned (.tuple #[.slice none 0 0, .int .i64 c]) ∧ Below w.heap.size w w' := by
  have hg0 := hg
  obtain ⟨vo, vr, rfl, ho, hr⟩ := hg
  obtain ⟨ao, co, rfl, hlo⟩ := ho.slice
  obtain ⟨ar, cr, rfl, hlr⟩ := hr.slice
  have Hg := Lib.hid hg0
  have HG := Lib.hid hG
  clear ho hr hg0 hG
  have hM0 := (Mem.start w).alloc #[.slice ao g.objs.length co, .slice ar g.roots.length cr] 25
  go_enter Try.func24, Try.ntmps24
  go_wp2_with fail
  refine (gcheck_no _ g _ (Hg.out.later hM0.below) HG.out).mono ?_
  rintro e w1 ⟨⟨c, rfl, hc⟩, hb⟩
  have hM1 := hM0.call hb
  go_wp2
  refine bodyPost_ret (v := .tuple #[.slice none 0 0, .int .i64 c]) (by simp [results, Try.results24, go_sem]) rfl ⟨c, hc, rfl, hM1.below⟩
end Go.Proofs.Ytnpbdabboecpaaa
