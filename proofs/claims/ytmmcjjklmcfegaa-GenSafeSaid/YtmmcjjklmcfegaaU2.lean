/- told, walked: what a memory told is what the one without end tells. -/
import Derived.Test.YtmmcjjklmcfegaaU0
import Derived.Test.YtmmcjjklmcfegaaS1
import Derived.Test.YtmmcjjklmcfegaaBase1
import Derived.Test.YtmmcjjklmcfegaaTak
import Derived.Deep.CutBlock
import Derived.Deep.RegionHeld3
namespace Go.Proofs.Ytmmcjjklmcfegaa
open Go.RowKit Go.Shelf

theorem elemDos : Elem Try.prog 26 58 5 40 (.agg #[.int .i64 0, .int .i64 0, .int .i64 0, .int .i64 0, .int .i64 0]) := ⟨by kernel_rfl, info_parts (by kernel_rfl), rfl, by decide⟩
theorem told_yes {W : Int → Bool} {d : Dd} {o : Ot} (h1 : W d.kind = false) (h2 : ¬ o.code = 6) : toldB W (d, o) = true := by unfold toldB; simp [h1, h2]
theorem told_no1 {W : Int → Bool} {d : Dd} {o : Ot} (h1 : W d.kind = true) : toldB W (d, o) = false := by unfold toldB; simp [h1]
theorem told_no2 {W : Int → Bool} {d : Dd} {o : Ot} (h2 : o.code = 6) : toldB W (d, o) = false := by unfold toldB; simp [h2]
theorem toldF_yes {W : Int → Bool} {ds : List Dd} {os : List Ot} {k : Nat} {d : Dd} {o : Ot} (hl : os.length = ds.length) (hd : ds[k]? = some d) (ho : os[k]? = some o) (h : toldB W (d, o) = true) : toldF W (ds.take (k + 1)) (os.take (k + 1)) = toldF W (ds.take k) (os.take k) ++ [(d, o)] := by
  rw [take_succ_some _ _ _ hd, take_succ_some _ _ _ ho, toldF_snoc W (by rw [List.length_take, List.length_take, hl]), if_pos h]
theorem toldF_no {W : Int → Bool} {ds : List Dd} {os : List Ot} {k : Nat} {d : Dd} {o : Ot} (hl : os.length = ds.length) (hd : ds[k]? = some d) (ho : os[k]? = some o) (h : toldB W (d, o) = false) : toldF W (ds.take (k + 1)) (os.take (k + 1)) = toldF W (ds.take k) (os.take k) := by
  rw [take_succ_some _ _ _ hd, take_succ_some _ _ _ ho, toldF_snoc W (by rw [List.length_take, List.length_take, hl]), if_neg (by rw [h]; decide), List.append_nil]
def ToldSays (g : G) (P : List (Dd × Ot)) (w w' : World) (e : Ending) : Prop :=
  ∃ v' c, e = .returned (.tuple #[v', .bool true]) ∧ CanonS (gOf (runs iKd.step (startI g) (P.map Prod.fst)).1.regs (runs iKd.step (startI g) (P.map Prod.fst)).1.os) c ∧ IsGraph w' v' c ∧ Below w.heap.size w w'
theorem mem_toldF {W : Int → Bool} {ds : List Dd} {os : List Ot} {p : Dd × Ot} (h : p ∈ toldF W ds os) : p.1 ∈ ds := by
  obtain ⟨d, o⟩ := p
  exact (List.of_mem_zip (List.mem_filter.1 h).1).1
set_option maxRecDepth 100000 in
set_option maxHeartbeats 8000000 in
theorem told_any (g : G) (hG : Good g) (v u o x : Value) (ds : List Dd) (os : List Ot) (W : List Int) (w : World) (hg : IsGraph w v g) (hu : IsTup 5 cellsD w u ds) (ho : IsTup 3 cellsO w o os) (hx : IsInts w x W) (hd : ∀ d ∈ ds, DdOk d) (hn : ds.length ≤ 100) (hl : os.length = ds.length)
    (hS : (runs iKd.step (startI g) ((toldF (wB W) ds os).map Prod.fst)).2 = (toldF (wB W) ds os).map Prod.snd) :
    Calls Try.prog 24 #[v, u, o, x] w fun e w' => ToldSays g (toldF (wB W) ds os) w w' e := by
  have Hg := Lib.hid hg
  have HG := Lib.hid hG
  have Hu := Lib.hid hu
  have Ho := Lib.hid ho
  have Hx := Lib.hid hx
  have HD := Lib.hid hd
  have HS := Lib.hid hS
  have Hl := Lib.hid hl
  obtain ⟨au, cu, rfl, _⟩ := hu.slice
  obtain ⟨ao2, co2, rfl, _⟩ := ho.slice
  obtain ⟨vo, vr, rfl, ho, hr⟩ := hg
  obtain ⟨ao, co, rfl, hlo⟩ := ho.slice
  obtain ⟨ar, cr, rfl, hlr⟩ := hr.slice
  obtain ⟨n, hn'⟩ : ∃ n, ds.length = n := ⟨_, rfl⟩
  have Hn := Lib.hid hn'
  rw [hn'] at Hu Hl hl hn ⊢
  rw [hl] at Ho ⊢
  have hM0 := (((Mem.start w).alloc #[.slice ao g.objs.length co, .slice ar g.roots.length cr] 25).alloc #[.slice none 0 0, .slice none 0 0] 25)
  simp only [World.size_alloc] at hM0
  have hM1 := (hM0.nilT 89 3 cellsO).nilT 58 5 cellsD
  have HM1 := Lib.hid hM1
  clear ho hr hG hu hd hM0 hM1 hS hl hx hn'
  go_enter Try.func24, Try.ntmps24
  go_upto_region 6 with (fail)
  go_loopw [10, 11, 12, 13, 25] (fun s10 s11 _ _ s25 wq => ∃ k : Nat, k ≤ n ∧ s25 = .int .i64 (k : Int) ∧ Mem w.heap.size w wq [rowT 58 5 cellsD s10 ((toldF (wB W) (ds.take k) (os.take k)).map Prod.fst), rowT 89 3 cellsO s11 ((toldF (wB W) (ds.take k) (os.take k)).map Prod.snd), ebox (w.heap.size + 1) #[.slice none 0 0, .slice none 0 0] 25, ebox w.heap.size #[.slice ao g.objs.length co, .slice ar g.roots.length cr] 25]) (fun _ _ _ _ i _ => n - (intOf i).toNat)
  case atStart => exact ⟨0, Nat.zero_le _, rfl, HM1.out⟩
  case round =>
    clear HM1
    obtain ⟨k, hk, rfl, hM⟩ := hrel
    by_cases hlt : k < n
    · obtain ⟨d, hd⟩ := get_some ds k (by rw [Hn.out]; exact hlt)
      obtain ⟨q, hq⟩ := get_some os k (by rw [Hl.out]; exact hlt)
      have hlen : os.length = ds.length := by rw [Hl.out, Hn.out]
      have Hyes := Lib.hid (toldF_yes (W := wB W) hlen hd hq)
      have Hno := Lib.hid (toldF_no (W := wB W) hlen hd hq)
      have hlP : (toldF (wB W) (ds.take k) (os.take k)).length ≤ 1000 := by
        have := toldF_len (wB W) (ds.take k) (os.take k)
        rw [List.length_take] at this; omega
      obtain ⟨Y, hY⟩ : ∃ Y, toldF (wB W) (ds.take k) (os.take k) = Y := ⟨_, rfl⟩
      rw [hY] at hM hlP Hyes Hno
      obtain ⟨b, off, rfl, _, hb2, hc⟩ := Hu.out.at2 hM.below hd
      obtain ⟨b', off', rfl, _, hb2', hc'⟩ := Ho.out.at2 hM.below hq
      obtain ⟨dk, dt, df, da, dn⟩ := d
      obtain ⟨qc, qr, qn⟩ := q
      have c0 : wr.cell? ⟨b, off + k * 5, none⟩ = some (.int .i64 dk) := hc 0 _ rfl
      have c1 : wr.cell? ⟨b, off + k * 5 + 1, none⟩ = some (.int .i64 dt) := hc 1 _ rfl
      have c2 : wr.cell? ⟨b, off + k * 5 + 2, none⟩ = some (.int .i64 df) := hc 2 _ rfl
      have c3 : wr.cell? ⟨b, off + k * 5 + 3, none⟩ = some (.int .i64 da) := hc 3 _ rfl
      have c4 : wr.cell? ⟨b, off + k * 5 + 4, none⟩ = some (.int .i64 dn) := hc 4 _ rfl
      have hMa := hM.allocAt wr.heap.size rfl #[.int .i64 dk, .int .i64 dt, .int .i64 df, .int .i64 da, .int .i64 dn] 58
      obtain ⟨W6, hW6⟩ : ∃ W6, wr.alloc (.cells #[.int .i64 dk, .int .i64 dt, .int .i64 df, .int .i64 da, .int .i64 dn] 58) = W6 := ⟨_, rfl⟩
      have hb6 : Below wr.heap.size wr W6 := hW6 ▸ (Below.refl _ _).alloc (Nat.le_refl _) _
      rw [hW6] at hMa
      obtain ⟨b13, hb13⟩ : ∃ b13, wr.heap.size = b13 := ⟨_, rfl⟩
      have y0 : W6.cell? ⟨b', off' + k * 3, none⟩ = some (.int .i64 qc) := (hb6.cell (p := ⟨_, _, none⟩) hb2').trans (hc' 0 _ rfl)
      have y1 : W6.cell? ⟨b', off' + k * 3 + 1, none⟩ = some (.bool qr) := (hb6.cell (p := ⟨_, _, none⟩) hb2').trans (hc' 1 _ rfl)
      have y2 : W6.cell? ⟨b', off' + k * 3 + 2, none⟩ = some (.int .i64 qn) := (hb6.cell (p := ⟨_, _, none⟩) hb2').trans (hc' 2 _ rfl)
      rw [hb13] at hMa
      have d0 := hMa.cell 0 rfl 0
      have d1 := hMa.cell 0 rfl 1
      have d2 := hMa.cell 0 rfl 2
      have d3 := hMa.cell 0 rfl 3
      have d4 := hMa.cell 0 rfl 4
      have db := (hMa.box 0 rfl).2.1
      have hb7 : b' < W6.heap.size := Nat.lt_of_lt_of_le hb2' hb6.size
      have e2 : (k : Int) < (n : Int) := by omega
      have hXn : IsInts W6 x W := Hx.out.later hMa.below
      have HHas := Lib.hid (has_any x W dk W6 hXn)
      have HMa := Lib.hid hMa
      have HW6 := Lib.hid hW6
      have Hb13 := Lib.hid hb13
      have HlP := Lib.hid hlP
      have HOk : Hid (∀ X, Below w.heap.size w X → X.cell? ⟨b', off' + k * 3, none⟩ = some (.int .i64 qc) ∧ X.cell? ⟨b', off' + k * 3 + 1, none⟩ = some (.bool qr) ∧ X.cell? ⟨b', off' + k * 3 + 2, none⟩ = some (.int .i64 qn) ∧ b' < X.heap.size) := Lib.hid fun X hX => by
        obtain ⟨b2, off2, he, _, h3, h4⟩ := Ho.out.at2 hX hq
        cases he
        exact ⟨h4 0 _ rfl, h4 1 _ rfl, h4 2 _ rfl, h3⟩
      clear hd hq hc hc' hM hMa hb6 hW6 hb13 hlP hXn hlen hY
      go_upto_region 8 with (fail)
      rw [HW6.out, Hb13.out]
      go_wp2_with fail
      refine HHas.out.mono ?_
      rintro e w7 ⟨rfl, rfl⟩
      by_cases hw : hasB W dk = true
      · have hT := Hno.out (told_no1 hw)
        have HT := Lib.hid hT
        rw [hw]
        clear hT
        go_wp2_with fail
        go_roundw
        case rel => exact ⟨k + 1, by omega, by go_num, by rw [HT.out]; exact HMa.out.drop (List.sublist_cons_self _ _)⟩
        case measure => simp [intOf]; omega
      · have hw' : hasB W dk = false := by simpa using hw
        rw [hw']
        by_cases h6 : qc = 6
        · have hT := Hno.out (told_no2 h6)
          have HT := Lib.hid hT
          subst h6
          clear hT
          go_wp2_with fail
          go_roundw
          case rel => exact ⟨k + 1, by omega, by go_num, by rw [HT.out]; exact HMa.out.drop (List.sublist_cons_self _ _)⟩
          case measure => simp [intOf]; omega
        · have hT := Hyes.out (told_yes hw' h6)
          have HT := Lib.hid hT
          have hne : (qc != 6) = true := by simpa using h6
          have hl1 : (Y.map Prod.fst).length ≤ 1000000 := by have := HlP.out; rw [List.length_map]; omega
          have hl2 : (Y.map Prod.snd).length ≤ 1000000 := by have := HlP.out; rw [List.length_map]; omega
          clear hT
          go_wp2_with (first
            | (refine Mem.wp_appT elemDos rfl (.tmp 43) (.tmp 45) rfl HMa.out 1 rfl rfl _ ⟨dk, dt, df, da, dn⟩ #[.int .i64 dk, .int .i64 dt, .int .i64 df, .int .i64 da, .int .i64 dn] rfl _ _ rfl rfl rfl rfl (by decide) hl1 ?_
               intro ad n1 cp w8 hn1 hM8 hs8 hk8 ha8
               have hbb : Below w.heap.size w w8 := hM8.below
               have z0 : w8.cell? ⟨b', off' + k * 3, none⟩ = some (.int .i64 qc) := (HOk.out w8 hbb).1
               have z1 : w8.cell? ⟨b', off' + k * 3 + 1, none⟩ = some (.bool qr) := (HOk.out w8 hbb).2.1
               have z2 : w8.cell? ⟨b', off' + k * 3 + 2, none⟩ = some (.int .i64 qn) := (HOk.out w8 hbb).2.2.1
               have zb : b' < w8.heap.size := (HOk.out w8 hbb).2.2.2)
            | (refine Mem.wp_appT elemOuts rfl (.tmp 47) (.tmp 52) rfl hM8 2 rfl rfl _ ⟨qc, qr, qn⟩ #[.int .i64 qc, .bool qr, .int .i64 qn] rfl _ _ rfl rfl rfl rfl (by decide) hl2 ?_
               intro ad2 n2 cp2 w9 hn2 hM9 hs9 hk9 ha9)
            | fail)
          go_roundw
          case rel =>
            refine ⟨k + 1, by omega, by go_num, ?_⟩
            rw [HT.out, List.map_append, List.map_append]
            exact hM9.drop (List.sublist_cons_self _ _)
          case measure => simp [intOf]; omega
    · obtain rfl : k = n := by omega
      rw [List.take_of_length_le (by rw [Hn.out]; exact Nat.le_refl _), List.take_of_length_le (by rw [Hl.out]; exact Nat.le_refl _)] at hM
      obtain ⟨Y, hY⟩ : ∃ Y, toldF (wB W) ds os = Y := ⟨_, rfl⟩
      have hYd : ∀ d ∈ Y.map Prod.fst, DdOk d := by
        intro d hd
        obtain ⟨p, hp, rfl⟩ := List.mem_map.1 hd
        rw [← hY] at hp
        exact HD.out _ (mem_toldF hp)
      have hYl : Y.length ≤ 100 := by
        have := toldF_len (wB W) ds os
        rw [← hY]; rw [Hn.out] at this; omega
      have hS := HS.out
      rw [hY] at hM hS
      have HY := Lib.hid hY
      have r0 := hM.cell 3 rfl 0
      have r1 := hM.cell 3 rfl 1
      have rb := (hM.box 3 rfl).2.1
      have rb1 := (hM.box 2 rfl).2.1
      have hTu := hM.isTup 0 rfl (fun _ => rfl) (by rw [List.length_map]; omega)
      have hPl := iplay_yes g HG.out _ _ (Y.map Prod.fst) wr (Hg.out.later hM.below) hTu hYd (by rw [List.length_map]; exact hYl)
      obtain ⟨aD, nD, cD, rfl⟩ := own_slice (hM.row 0 rfl)
      obtain ⟨aO, nO, cO, rfl⟩ := own_slice (hM.row 1 rfl)
      have HPl := Lib.hid hPl
      have HM := Lib.hid hM
      have HS2 := Lib.hid hS
      have HYl := Lib.hid hYl
      clear hPl hM hS hY hYd hTu hYl
      go_wp2_with fail
      refine HPl.out.mono ?_
      rintro e w3 ⟨vl, v', c, rfl, hca, hga, hMa⟩
      rw [HS2.out] at hMa
      have hta := hMa.isTup 0 rfl (fun _ => rfl) (by have := HYl.out; rw [List.length_map]; omega)
      obtain ⟨a3, c3, rfl, _⟩ := hta.slice
      have hTo := (HM.out.isTup 1 rfl (fun _ => rfl) (by have := HYl.out; rw [List.length_map]; omega)).later hMa.below
      obtain ⟨vo3, vr3, rfl, ho3, hr3⟩ := hga.here
      obtain ⟨ao3, co3, rfl, _⟩ := ho3.slice
      obtain ⟨ar3, cr3, rfl, _⟩ := hr3.slice
      have hMb := (HM.out.call hMa.below).allocAt w3.heap.size rfl #[.slice ao3 c.objs.length co3, .slice ar3 c.roots.length cr3] 25
      obtain ⟨w4, hw4⟩ : ∃ w4, w4 = w3.alloc (.cells #[.slice ao3 c.objs.length co3, .slice ar3 c.roots.length cr3] 25) := ⟨_, rfl⟩
      have hb4 : Below w3.heap.size w3 w4 := by rw [hw4]; exact (Below.refl _ _).alloc (Nat.le_refl _) _
      rw [← hw4] at hMb
      obtain ⟨b15, hb15⟩ : ∃ b15, w3.heap.size = b15 := ⟨_, rfl⟩
      rw [hb15] at hMb
      have t0 := hMb.cell 0 rfl 0
      have t1 := hMb.cell 0 rfl 1
      have tb := (hMb.box 0 rfl).2.1
      have s0 := hMb.free 3 rfl 0
      have s1 := hMb.free 3 rfl 1
      have u0 := hMb.cell 3 rfl 0
      have u1 := hMb.cell 3 rfl 1
      have ub := (hMb.box 3 rfl).2.1
      have HMb := Lib.hid hMb
      have Hga : Hid (∀ X, Below w4.heap.size w4 X → ∀ a b, IsGraph ((X.setCell ⟨w.heap.size + 1, 0, none⟩ a).setCell ⟨w.heap.size + 1, 1, none⟩ b) (.agg #[.slice ao3 c.objs.length co3, .slice ar3 c.roots.length cr3]) c) := Lib.hid fun X hX a b => by
        have h1 := hb4.trans (hX.mono hb4.size)
        refine hga _ (by have := h1.size; simpa using this) fun i hi1 hi2 => ?_
        rw [heap_setCell_other _ _ _ _ (by simp only; omega), heap_setCell_other _ _ _ _ (by simp only; omega)]
        exact h1.block i hi2
      have Hou : Hid (∀ X, Below w4.heap.size w4 X → Calls Try.prog 17 #[.slice a3 Y.length c3, .slice aO nO cO] X fun e w' => e = .returned (.bool true) ∧ Below X.heap.size X w') :=
        Lib.hid fun X hX => by
          have := outs_yes _ _ _ X ((hta.later hb4).later hX) ((hTo.later hb4).later hX)
          rwa [List.length_map] at this
      have Hca := Lib.hid hca
      have Hw4 := Lib.hid hw4
      have Hb15 := Lib.hid hb15
      clear hMb hga hca hta hTo hMa hb4 hw4 hb15 ho3 hr3 HPl HS2
      go_upto_region 13 with (fail)
      rw [← Hw4.out, Hb15.out]
      clear Hw4 Hb15
      go_region_held3 (fun X => X.cell? ⟨b15, 0, none⟩ = some (.slice ao3 c.objs.length co3) ∧ X.cell? ⟨b15, 1, none⟩ = some (.slice ar3 c.roots.length cr3))
        (first | exact ⟨((hM5.setBox 3 rfl 0 (.slice ao3 c.objs.length co3)).setBox 3 rfl 1 (.slice ar3 c.roots.length cr3)).cell 0 rfl 0, ((hM5.setBox 3 rfl 0 (.slice ao3 c.objs.length co3)).setBox 3 rfl 1 (.slice ar3 c.roots.length cr3)).cell 0 rfl 1⟩ | exact ⟨((show Below w4.heap.size w4 _ from (by repeat (first | exact Below.refl _ _ | assumption | refine Below.setCell ?_ (by first | exact Nat.le_refl _ | (simp; done) | (simp; omega) | (simp at *; omega)) _ | refine Below.alloc ?_ (by first | exact Nat.le_refl _ | (simp; done) | (simp; omega) | (simp at *; omega)) _ | refine Below.drew ?_))).cell (p := ⟨_, _, none⟩) tb).trans t0, ((show Below w4.heap.size w4 _ from (by repeat (first | exact Below.refl _ _ | assumption | refine Below.setCell ?_ (by first | exact Nat.le_refl _ | (simp; done) | (simp; omega) | (simp at *; omega)) _ | refine Below.alloc ?_ (by first | exact Nat.le_refl _ | (simp; done) | (simp; omega) | (simp at *; omega)) _ | refine Below.drew ?_))).cell (p := ⟨_, _, none⟩) tb).trans t1⟩ | fail)
        (first
          | (go_at_call 17
             with_reducible refine (Hou.out _ (by repeat (first | exact Below.refl _ _ | assumption | refine Below.setCell ?_ (by first | exact Nat.le_refl _ | (simp; done) | (simp; omega) | (simp at *; omega)) _ | refine Below.alloc ?_ (by first | exact Nat.le_refl _ | (simp; done) | (simp; omega) | (simp at *; omega)) _ | refine Below.drew ?_))).mono ?_
             rintro e w5 ⟨rfl, hb5⟩
             have hB5 : Below w4.heap.size w4 w5 := by
               refine (show Below w4.heap.size w4 _ → _ from fun h => h.trans (hb5.mono h.size)) ?_
               exact (by repeat (first | exact Below.refl _ _ | assumption | refine Below.setCell ?_ (by first | exact Nat.le_refl _ | (simp; done) | (simp; omega) | (simp at *; omega)) _ | refine Below.alloc ?_ (by first | exact Nat.le_refl _ | (simp; done) | (simp; omega) | (simp at *; omega)) _ | refine Below.drew ?_))
             have hM5 := HMb.out.call hB5
             have x0 := hM5.free 3 rfl 0
             have x1 := hM5.free 3 rfl 1
             have x2 := hM5.cell 3 rfl 0
             have x3 := hM5.cell 3 rfl 1
             have xb := (hM5.box 3 rfl).2.1)
          | fail)
      all_goals
        have hM6 := (hM5.setBox 3 rfl 0 (.slice ao3 c.objs.length co3)).setBox 3 rfl 1 (.slice ar3 c.roots.length cr3)
        have z0 := hM6.cell 3 rfl 0
        have z1 := hM6.cell 3 rfl 1
        have hga2 := Hga.out w5 hB5 (.slice ao3 c.objs.length co3) (.slice ar3 c.roots.length cr3)
        have HB := Lib.hid hM6.below
        have HG2 := Lib.hid hga2
        clear hM5 hM6 hga2
        go_wp2_with fail
        obtain ⟨W9, hW9⟩ : ∃ W9, (w5.setCell ⟨w.heap.size + 1, 0, none⟩ (.slice ao3 c.objs.length co3)).setCell ⟨w.heap.size + 1, 1, none⟩ (.slice ar3 c.roots.length cr3) = W9 := ⟨_, rfl⟩
        have HB9 := HB.out
        have HG9 := HG2.out
        rw [hW9] at z0 z1 HB9 HG9 ⊢
        refine bodyPost_ret (v := .tuple #[.agg #[.slice ao3 c.objs.length co3, .slice ar3 c.roots.length cr3], .bool true]) (by simp [results, Try.results24, go_sem, z0, z1]) rfl ?_
        rw [HY.out]
        exact ⟨_, c, rfl, Hca.out, HG9, HB9⟩
end Go.Proofs.Ytmmcjjklmcfegaa
