/- arena.Lay, walked. -/
import Derived.Test.YtigdpdndnghldaaBf
import Derived.Test.YtigdpdndnghldaaGc
import Derived.StillTailTactics
import Derived.Deep.RegionLaw
import Derived.Deep.DrawnRows
namespace Go.Proofs.Ytigdpdndnghldaa
open Go.RowKit Go.Shelf

attribute [local go_sem ↓] Go.wp_at_zero Go.wp_at_succ
theorem isW_one (w : World) (x : Int) (t : TypeId) (hx : w64 x) : IsW (w.alloc (.cells #[.int .u64 x] t)) (.slice (some ⟨w.heap.size, 0, none⟩) 1 1) [x] := by
  refine ⟨⟨_, _, rfl, by simp⟩, some ⟨w.heap.size, 0, none⟩, 1, rfl, by simp, ?_⟩
  intro k y hk
  cases k with
  | zero => simp at hk; subst hk; exact ⟨w.heap.size, 0, rfl, by simp, by rw [World.cell?_alloc_new]; rfl, hx⟩
  | succ k => simp at hk
theorem elemI64 : Elem Try.prog 83 2 1 8 (.int .i64 0) := ⟨by kernel_rfl, info_parts (by kernel_rfl), rfl, by decide⟩
theorem places_take {objs : List (List V)} {k : Nat} (h : k < objs.length) : (places objs).take (k + 1) = (places objs).take k ++ [(placeO objs k : Int)] := take_succ_some _ _ _ (places_get h)
theorem placeO_succ {objs : List (List V)} {k : Nat} {o : List V} (h : objs[k]? = some o) : placeO objs (k + 1) = placeO objs k + (1 + o.length) := by
  unfold placeO
  rw [take_succ_some _ _ _ h, List.map_append, List.sum_append]; simp
theorem layO_get {objs : List (List V)} {k : Nat} {o : List V} (h : objs[k]? = some o) : (layO objs)[k]? = some (headW o.length 0 false, o.map (packV objs)) := by
  unfold layO; rw [List.getElem?_map, h]; rfl
def LaySays (g : G) (w w' : World) (e : Ending) : Prop :=
  (Good g ∧ ∃ wv rv, e = .returned (.tuple #[.agg #[wv, rv], .int .i64 0]) ∧ Mem w.heap.size w w' [rowW 55 wv (flat (layO g.objs)), rowW 55 rv (g.roots.map (packV g.objs))]) ∨
  (¬ Good g ∧ ∃ wv rv c, e = .returned (.tuple #[.agg #[wv, rv], .int .i64 c]) ∧ (∃ a n k, wv = .slice a n k) ∧ (∃ a n k, rv = .slice a n k) ∧ c ≠ 0 ∧ Below w.heap.size w w')
set_option maxRecDepth 100000 in
set_option maxHeartbeats 4000000 in
theorem lay_any (v : Value) (g : G) (w : World) (hg : IsGraph w v g) :
    Calls Try.prog 21 #[v] w fun e w' => LaySays g w w' e := by
  have Hg := Lib.hid hg
  obtain ⟨vo, vr, rfl, ho, hr⟩ := hg
  have Ho := Lib.hid ho
  have Hr := Lib.hid hr
  obtain ⟨ao, co, rfl, hlo⟩ := ho.slice
  obtain ⟨ar, cr, rfl, hlr⟩ := hr.slice
  have hM0 := (((Mem.start w).alloc #[.slice ao g.objs.length co, .slice ar g.roots.length cr] 42).allocAt (w.heap.size + 1) (by simp) #[.slice none 0 0, .slice none 0 0] 24)
  have HM0 := Lib.hid hM0
  clear ho hr
  by_cases hG : Good g
  · have HC := Lib.hid (gcheck_yes _ g _ (Hg.out.later hM0.below) hG)
    have HG := Lib.hid hG
    have hob := hG.objs
    have hro := hG.roots
    clear hM0 hG
    go_enter Try.func21, Try.ntmps21
    go_wp2_with fail
    refine HC.out.mono ?_
    rintro e w2 ⟨rfl, hb⟩
    have hM2 := HM0.out.call hb
    obtain ⟨n, hn⟩ : ∃ n, g.objs.length = n := ⟨_, rfl⟩
    rw [hn] at hM2 hob
    have hM3 := (hM2.nilI 2).alloc #[.slice none 0 0] 83
    obtain ⟨b5, hb5⟩ : ∃ b5, w2.heap.size = b5 := ⟨_, rfl⟩
    obtain ⟨W3, hW3⟩ : ∃ W3, w2.alloc (.cells #[.slice none 0 0] 83) = W3 := ⟨_, rfl⟩
    rw [hb5, hW3] at hM3
    have c0 : w2.cell? ⟨w.heap.size, 0, none⟩ = some (.slice ao n co) := by have := hM2.cell 1 rfl 0; simpa using this
    have z0 : w.heap.size < w2.heap.size := (hM2.box 1 rfl).2.1
    have HM3 := Lib.hid hM3
    have HW3 := Lib.hid hW3
    have Hb5 := Lib.hid hb5
    have Hn := Lib.hid hn
    rw [hn]
    clear hb hM2 hM3 hW3 hb5 HC HM0 hn
    go_wp2
    rw [Hb5.out, HW3.out]
    go_loopw [6, 24] (fun s i wr => ∃ (k : Nat) (atv : Value), k ≤ n ∧ i = .int .i64 k ∧ s = .int .i64 (placeO g.objs k) ∧ Mem w.heap.size w wr [ebox b5 #[atv] 83, rowI 2 atv ((places g.objs).take k), ebox (w.heap.size + 1) #[.slice none 0 0, .slice none 0 0] 24, ebox w.heap.size #[.slice ao n co, .slice ar g.roots.length cr] 42]) (fun _ i _ => n - (intOf i).toNat)
    case atStart => exact ⟨0, _, Nat.zero_le _, rfl, rfl, HM3.out⟩
    case round =>
      clear HM3 c0 z0
      obtain ⟨k, atv, hk, rfl, rfl, hM⟩ := hrel
      have hpl := placeO_le HG.out k
      obtain ⟨aa, na, ca, rfl⟩ := own_slice (hM.row 1 rfl)
      have c5 : wr.cell? ⟨b5, 0, none⟩ = some (.slice aa na ca) := by have := hM.cell 0 rfl 0; simpa using this
      have z5 : b5 < wr.heap.size := (hM.box 0 rfl).2.1
      by_cases hlt : k < n
      · obtain ⟨o, hob2⟩ := get_some g.objs k (by rw [Hn.out]; exact hlt)
        obtain ⟨bo, oo, cap3, uo, hv2, hbo, hn3, c2, huo⟩ := Ho.out.at hM.below hob2
        rw [Hn.out] at hv2
        cases hv2
        obtain ⟨af, cf, rfl, hlf⟩ := huo.slice
        have hol := HG.out.fields o (List.mem_of_getElem? hob2)
        have HT := Lib.hid (places_take (objs := g.objs) (k := k) (by rw [Hn.out]; exact hlt))
        have HP := Lib.hid (placeO_succ hob2)
        obtain ⟨m, hm⟩ : ∃ m, o.length = m := ⟨_, rfl⟩
        rw [hm] at c2 HP hol
        have HM := Lib.hid (hM.alloc #[.slice af m cf] 46)
        have hne : ¬ wr.heap.size = b5 := by omega
        have hne2 : ¬ b5 = wr.heap.size := by omega
        have hln : ((places g.objs).take k).length ≤ 1000000 := by rw [List.length_take]; omega
        obtain ⟨p, hp⟩ : ∃ p, placeO g.objs k = p := ⟨_, rfl⟩
        rw [hp] at HT HP hpl ⊢
        clear hM huo hob2 hm hp hlf
        go_wp2_with (at_builtin; refine Mem.wp_appI elemI64 rfl (.tmp 28) (.tmp 30) rfl HM.out 2 rfl rfl _ (p : Int) _ _ rfl (by simp) hln ?_; intro ad n1 cp w6 hn1 hM6 hs6 hk6 ha6; have r1 : w6.frozen? ⟨b5, 0, none⟩ = false := hM6.free 1 rfl 0; have r2 : w6.cell? ⟨b5, 0, none⟩ = some (.slice aa na ca) := (by have := hM6.cell 1 rfl 0; simpa using this); have r3 : w6.cell? ⟨wr.heap.size, 0, none⟩ = some (.slice af m cf) := (by have := hM6.cell 0 rfl 0; simpa using this))
        go_roundw
        case rel => exact ⟨k + 1, .slice ad n1 cp, by omega, by go_num, by rw [HP.out]; go_num, ((hM6.setBox 1 rfl 0 (.slice ad n1 cp)).drop (List.sublist_cons_self _ _)).cast (by rw [HT.out]; rfl)⟩
        case measure => simp [intOf]; omega
      · obtain rfl : k = n := by omega
        rw [show (places g.objs).take k = places g.objs by rw [← Hn.out, ← places_len g.objs, List.take_length]] at hM
        have hM2 := (hM.nilW 55).alloc #[.slice none 0 0, .slice none 0 0] 24
        obtain ⟨bO, hbO⟩ : ∃ bO, wr.heap.size = bO := ⟨_, rfl⟩
        obtain ⟨W4, hW4⟩ : ∃ W4, wr.alloc (.cells #[.slice none 0 0, .slice none 0 0] 24) = W4 := ⟨_, rfl⟩
        rw [hbO, hW4] at hM2
        have e0 : wr.cell? ⟨w.heap.size, 0, none⟩ = some (.slice ao k co) := by have := hM.cell 3 rfl 0; simpa using this
        have ez : w.heap.size < wr.heap.size := (hM.box 3 rfl).2.1
        have HM2 := Lib.hid hM2
        have HW4 := Lib.hid hW4
        have HbO := Lib.hid hbO
        clear hM hM2 hW4 hbO c5 z5 hpl
        go_wp2
        rw [HbO.out, HW4.out]
        go_loopw [43] (fun i wr => ∃ (j : Nat) (wv : Value), j ≤ k ∧ i = .int .i64 j ∧ Mem w.heap.size w wr [ebox bO #[wv, .slice none 0 0] 24, rowW 55 wv (flat ((layO g.objs).take j)), ebox b5 #[.slice aa na ca] 83, rowI 2 (.slice aa na ca) (places g.objs), ebox (w.heap.size + 1) #[.slice none 0 0, .slice none 0 0] 24, ebox w.heap.size #[.slice ao k co, .slice ar g.roots.length cr] 42]) (fun i _ => k - (intOf i).toNat)
        case atStart => exact ⟨0, _, Nat.zero_le _, rfl, HM2.out⟩
        case round =>
          clear HM2 e0 ez
          obtain ⟨j, wv, hj, rfl, hM⟩ := hrel
          obtain ⟨aw, nw, cw, rfl⟩ := own_slice (hM.row 1 rfl)
          by_cases hlt2 : j < k
          · obtain ⟨o, hob2⟩ := get_some g.objs j (by rw [Hn.out]; exact hlt2)
            obtain ⟨bo, oo, cap3, uo, hv2, hbo, hn3, c2, huo⟩ := Ho.out.at hM.below hob2
            rw [Hn.out] at hv2
            cases hv2
            obtain ⟨af, cf, rfl, hlf⟩ := huo.slice
            have hol := HG.out.fields o (List.mem_of_getElem? hob2)
            have hF : flat ((layO g.objs).take (j + 1)) = (flat ((layO g.objs).take j) ++ [headW o.length 0 false]) ++ o.map (packV g.objs) := by
              rw [take_succ_some _ _ _ (layO_get hob2), flat_append, flat_one, List.append_assoc]; rfl
            have hfl : (flat ((layO g.objs).take j)).length ≤ 120 := by
              have h1 := placeO_le HG.out j
              rw [← layO_place] at h1
              exact h1
            obtain ⟨_, _, hd64⟩ := headP o.length hol
            obtain ⟨m, hm⟩ : ∃ m, o.length = m := ⟨_, rfl⟩
            rw [hm] at c2 hF hol hd64
            have hM1 := hM.alloc #[.slice af m cf] 46
            obtain ⟨bo2, hbo2⟩ : ∃ bo2, wr.heap.size = bo2 := ⟨_, rfl⟩
            have hU := head_ok m 0 false (wr.alloc (.cells #[.slice af m cf] 46)) (by omega) (by omega) (by decide) (by decide)
            rw [hbo2] at hM1
            obtain ⟨hd, hhd⟩ : ∃ hd, headW m 0 false = hd := ⟨_, rfl⟩
            rw [hhd] at hU hF hd64
            have HU := Lib.hid hU
            have HM1 := Lib.hid hM1
            have HF := Lib.hid hF
            have Hhd := Lib.hid hd64
            have Huo := Lib.hid huo
            have Hm := Lib.hid hm
            have Hal : Hid (∀ v ∈ o, v ∈ allV g) := Lib.hid (fun v hv => fields_allV (List.mem_of_getElem? hob2) hv)
            have Hfl := Lib.hid hfl
            have Hbo2 := Lib.hid hbo2
            clear hM hM1 hU hF hd64 huo hob2 hm hhd hfl hbo2 hlf
            go_wp2_with fail
            rw [Hbo2.out]
            refine HU.out.mono ?_
            rintro e w4 ⟨rfl, hb4⟩
            have hMd := HM1.out.call hb4
            have s0 : w4.cell? ⟨bO, 0, none⟩ = some (.slice aw nw cw) := by have := hMd.cell 1 rfl 0; simpa using this
            have s1 : w4.cell? ⟨bo2, 0, none⟩ = some (.slice af m cf) := by have := hMd.cell 0 rfl 0; simpa using this
            have z0 : bO < w4.heap.size := (hMd.box 1 rfl).2.1
            have z1 : bo2 < w4.heap.size := (hMd.box 0 rfl).2.1
            have HMa := Lib.hid (hMd.alloc_ (.cells #[.int .u64 hd] 55)).drew
            have HIw : Hid (IsW ((w4.alloc (.cells #[.int .u64 hd] 55)).drew) (.slice (some ⟨w4.heap.size, 0, none⟩) 1 1) [hd]) := Lib.hid ((isW_one w4 hd 55 Hhd.out).later (Below.refl _ _).drew)
            have Hlf : Hid ((flat ((layO g.objs).take j)).length + [hd].length ≤ 1000000) := Lib.hid (by have := Hfl.out; simp; omega)
            clear hb4 hMd HU HM1
            go_wp2
            go_region_law (first
              | (refine Mem.step_appWs elemWords rfl (.tmp 57) (.tmp 59) rfl HMa.out 2 rfl rfl rfl HIw.out Hlf.out ?_
                 intro v6 w6 hM6 hs6 hk6
                 obtain ⟨a6, n6, c6, rfl⟩ := own_slice (hM6.row 2 rfl)
                 have t1 : w6.cell? ⟨bo2, 0, none⟩ = some (.slice af m cf) := by have := hM6.cell 0 rfl 0; simpa using this
                 have y1 : bo2 < w6.heap.size := (hM6.box 0 rfl).2.1
                 have HL := Lib.hid (lay1_any w w6 g HG.out (.slice a6 n6 c6) (.slice af o.length cf) (.slice aa na ca) _ o b5 [ebox bo2 #[.slice af m cf] 46, ebox bO #[.slice aw nw cw, .slice none 0 0] 24, ebox (w.heap.size + 1) #[.slice none 0 0, .slice none 0 0] 24, ebox w.heap.size #[.slice (some ⟨bo, oo, none⟩) k co, .slice ar g.roots.length cr] 42] (hM6.pick0 [2, 3, 4, 0, 1, 5, 6] (by decide) rfl) Huo.out Hal.out (by rw [List.length_append, Hm.out]; have := Hfl.out; simp; omega))
                 rw [Hm.out] at HL)
              | (go_simp
                 refine HL.out.mono ?_
                 rintro e w7 ⟨r, rfl, hM7⟩
                 obtain ⟨a7, n7, c7, rfl⟩ := own_slice (hM7.row 0 rfl)
                 have u1 : w7.frozen? ⟨bO, 0, none⟩ = false := hM7.free 4 rfl 0
                 have u2 : w7.cell? ⟨bO, 0, none⟩ = some (.slice aw nw cw) := by have := hM7.cell 4 rfl 0; simpa using this))
            all_goals
              go_wp2
              go_roundw
              case rel =>
                refine ⟨j + 1, .slice a7 n7 c7, by omega, by go_num, ?_⟩
                refine ((hM7.setBox 4 rfl 0 (.slice a7 n7 c7)).pick0 [4, 0, 1, 2, 5, 6] (by decide) ?_)
                rw [HF.out]; rfl
              case measure => simp [intOf]; omega
          · obtain rfl : j = k := by omega
            rw [show (layO g.objs).take j = layO g.objs by rw [← Hn.out, ← layO_length g.objs, List.take_length]] at hM
            have e0 : wr.cell? ⟨w.heap.size, 1, none⟩ = some (.slice ar g.roots.length cr) := by have := hM.cell 5 rfl 1; simpa using this
            have ez : w.heap.size < wr.heap.size := (hM.box 5 rfl).2.1
            have HL := Lib.hid (lay1_any w wr g HG.out (.slice none 0 0) (.slice ar g.roots.length cr) (.slice aa na ca) [] g.roots b5 [ebox bO #[.slice aw nw cw, .slice none 0 0] 24, rowW 55 (.slice aw nw cw) (flat (layO g.objs)), ebox (w.heap.size + 1) #[.slice none 0 0, .slice none 0 0] 24, ebox w.heap.size #[.slice ao j co, .slice ar g.roots.length cr] 42] ((hM.nilW 55).pick0 [0, 3, 4, 1, 2, 5, 6] (by decide) rfl) Hr.out (fun v hv => roots_allV hv) (by simp; omega))
            clear hM
            go_wp2_with fail
            refine HL.out.mono ?_
            rintro e w7 ⟨r, rfl, hM7⟩
            obtain ⟨a7, n7, c7, rfl⟩ := own_slice (hM7.row 0 rfl)
            rw [List.nil_append] at hM7
            have u0 : w7.cell? ⟨bO, 0, none⟩ = some (.slice aw nw cw) := by have := hM7.cell 3 rfl 0; simpa using this
            have u1 : w7.frozen? ⟨bO, 1, none⟩ = false := hM7.free 3 rfl 1
            have u2 : w7.cell? ⟨bO, 1, none⟩ = some (.slice none 0 0) := by have := hM7.cell 3 rfl 1; simpa using this
            have uz : bO < w7.heap.size := (hM7.box 3 rfl).2.1
            have hap := Ent.apart_at hM7.apart (i := 3) (j := 5) (by decide) rfl rfl
            have nb1 : ¬ bO = w.heap.size + 1 := fun e => hap bO rfl (by rw [e]; rfl)
            have nb2 : ¬ w.heap.size + 1 = bO := fun e => nb1 e.symm
            have s2 : w7.cell? ⟨w.heap.size + 1, 0, none⟩ = some (.slice none 0 0) := by have := hM7.cell 5 rfl 0; simpa using this
            have s3 : w7.cell? ⟨w.heap.size + 1, 1, none⟩ = some (.slice none 0 0) := by have := hM7.cell 5 rfl 1; simpa using this
            have s4 : w7.frozen? ⟨w.heap.size + 1, 0, none⟩ = false := hM7.free 5 rfl 0
            have s5 : w7.frozen? ⟨w.heap.size + 1, 1, none⟩ = false := hM7.free 5 rfl 1
            have s6 : w.heap.size + 1 < w7.heap.size := (hM7.box 5 rfl).2.1
            have HM9 := Lib.hid (((hM7.setBox 3 rfl 1 (.slice a7 n7 c7)).setBox 5 rfl 0 (.slice aw nw cw)).setBox 5 rfl 1 (.slice a7 n7 c7))
            clear hM7 HL e0 ez hap
            go_wp2
            obtain ⟨W6, hW6⟩ : ∃ W6, W6 = ((w7.setCell ⟨bO, 1, none⟩ (.slice a7 n7 c7)).setCell ⟨w.heap.size + 1, 0, none⟩ (.slice aw nw cw)).setCell ⟨w.heap.size + 1, 1, none⟩ (.slice a7 n7 c7) := ⟨_, rfl⟩
            have hM7 := HM9.out
            rw [← hW6] at hM7 ⊢
            have r0 : W6.cell? ⟨w.heap.size + 1, 0, none⟩ = some (.slice aw nw cw) := by have := hM7.cell 5 rfl 0; simpa using this
            have r1 : W6.cell? ⟨w.heap.size + 1, 1, none⟩ = some (.slice a7 n7 c7) := by have := hM7.cell 5 rfl 1; simpa using this
            refine bodyPost_ret (v := .tuple #[.agg #[.slice aw nw cw, .slice a7 n7 c7], .int .i64 0]) (by simp [results, Try.results21, go_sem, r0, r1]) rfl (.inl ⟨HG.out, _, _, rfl, ?_⟩)
            exact hM7.pick0 [4, 0] (by decide) rfl
  · have HC := Lib.hid (gcheck_no _ g _ (Hg.out.later hM0.below) hG)
    have HG := Lib.hid hG
    clear hM0 hG
    go_enter Try.func21, Try.ntmps21
    go_wp2_with fail
    refine HC.out.mono ?_
    rintro e w2 ⟨⟨c, rfl, hc⟩, hb⟩
    have hM2 := HM0.out.call hb
    have q1 : (c != 0) = true := by simp at hc; simp [hc]
    have hc0 : c ≠ 0 := by simpa using q1
    have z1 : w.heap.size + 1 < w2.heap.size := (hM2.box 0 rfl).2.1
    have s2 : w2.cell? ⟨w.heap.size + 1, 0, none⟩ = some (.slice none 0 0) := by have := hM2.cell 0 rfl 0; simpa using this
    have s3 : w2.cell? ⟨w.heap.size + 1, 1, none⟩ = some (.slice none 0 0) := by have := hM2.cell 0 rfl 1; simpa using this
    have s4 : w2.frozen? ⟨w.heap.size + 1, 0, none⟩ = false := hM2.free 0 rfl 0
    have s5 : w2.frozen? ⟨w.heap.size + 1, 1, none⟩ = false := hM2.free 0 rfl 1
    have Hc0 := Lib.hid hc0
    have HM6 := Lib.hid ((hM2.setBox 0 rfl 0 (.slice none 0 0)).setBox 0 rfl 1 (.slice none 0 0))
    clear hb hM2 HC HM0 hc hc0
    go_wp2
    obtain ⟨W6, hW6⟩ : ∃ W6, W6 = (w2.setCell ⟨w.heap.size + 1, 0, none⟩ (.slice none 0 0)).setCell ⟨w.heap.size + 1, 1, none⟩ (.slice none 0 0) := ⟨_, rfl⟩
    have hM7 := HM6.out
    rw [← hW6] at hM7 ⊢
    have r0 : W6.cell? ⟨w.heap.size + 1, 0, none⟩ = some (.slice none 0 0) := by have := hM7.cell 0 rfl 0; simpa using this
    have r1 : W6.cell? ⟨w.heap.size + 1, 1, none⟩ = some (.slice none 0 0) := by have := hM7.cell 0 rfl 1; simpa using this
    refine bodyPost_ret (v := .tuple #[.agg #[.slice none 0 0, .slice none 0 0], .int .i64 c]) (by simp [results, Try.results21, go_sem, r0, r1]) rfl (.inr ⟨HG.out, _, _, c, rfl, ⟨_, _, _, rfl⟩, ⟨_, _, _, rfl⟩, Hc0.out, hM7.below⟩)
end Go.Proofs.Ytigdpdndnghldaa
