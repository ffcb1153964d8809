/- Texts U2 Rpq Rpr Wks Beh Rps in one. -/
import Derived.Test.YtmmcjjklmcfegaaU0
import Derived.Test.YtmmcjjklmcfegaaS1
import Derived.Test.YtmmcjjklmcfegaaBase1
import Derived.Test.YtmmcjjklmcfegaaTak
import Derived.Deep.CutBlock
import Derived.Deep.RegionHeld3
import Derived.Test.YtmmcjjklmcfegaaRpo
import Derived.Deep.QuietTactic
import Derived.BigQuiet
import Derived.Test.YtmmcjjklmcfegaaBase10
/- told, walked: what a memory told is what the one without end tells. -/
namespace Go.Proofs.Ytmmcjjklmcfegaa
open Go.RowKit Go.Shelf

theorem elemDos : Elem Try.prog 26 58 5 40 (.agg #[.int .i64 0, .int .i64 0, .int .i64 0, .int .i64 0, .int .i64 0]) := ⟨by kernel_rfl, info_parts (by kernel_rfl), rfl, by decide⟩
theorem told_yes {W : Int → Bool} {d : Dd} {o : Ot} (h1 : W d.kind = false) (h2 : ¬ o.code = 6) : toldB W (d, o) = true := by unfold toldB; simp [h1, h2]
theorem told_no1 {W : Int → Bool} {d : Dd} {o : Ot} (h1 : W d.kind = true) : toldB W (d, o) = false := by unfold toldB; simp [h1]
theorem told_no2 {W : Int → Bool} {d : Dd} {o : Ot} (h2 : o.code = 6) : toldB W (d, o) = false := by unfold toldB; simp [h2]
theorem toldF_yes {W : Int → Bool} {ds : List Dd} {os : List Ot} {k : Nat} {d : Dd} {o : Ot} (hl : os.length = ds.length) (hd : ds[k]? = some d) (ho : os[k]? = some o) (h : toldB W (d, o) = true) : toldF W (ds.take (k + 1)) (os.take (k + 1)) = toldF W (ds.take k) (os.take k) ++ [(d, o)] := by
  rw [take_succ_some _ _ _ hd, take_succ_some _ _ _ ho, toldF_snoc W (by rw [List.length_take, List.length_take, hl]), if_pos h]
theorem toldF_no {W : Int → Bool} {ds : List Dd} {os : List Ot} {k : Nat} {d : Dd} {o : Ot} (hl : os.length = ds.length) (hd : ds[k]? = some d) (ho : os[k]? = some o) (h : toldB W (d, o) = false) : toldF W (ds.take (k + 1)) (os.take (k + 1)) = toldF W (ds.take k) (os.take k) := by
  rw [take_succ_some _ _ _ hd, take_succ_some _ _ _ ho, toldF_snoc W (by rw [List.length_take, List.length_take, hl]), if_neg (by rw [h]; decide), List.append_nil]
def ToldSays (g : G) (P : List (Dd × Ot)) (w w' : World) (e : Ending) : Prop :=
  ∃ v' c, e = .returned (.tuple #[v', .bool true]) ∧ CanonS (gOf (runs iKd.step (startI g) (P.map Prod.fst)).1.regs (runs iKd.step (startI g) (P.map Prod.fst)).1.os) c ∧ IsGraph w' v' c ∧ Below w.heap.size w w'
theorem mem_toldF {W : Int → Bool} {ds : List Dd} {os : List Ot} {p : Dd × Ot} (h : p ∈ toldF W ds os) : p.1 ∈ ds := by
  obtain ⟨d, o⟩ := p
  exact (List.of_mem_zip (List.mem_filter.1 h).1).1
set_option maxRecDepth 100000 in
set_option maxHeartbeats 8000000 in
theorem told_any (g : G) (hG : Good g) (v u o x : Value) (ds : List Dd) (os : List Ot) (W : List Int) (w : World) (hg : IsGraph w v g) (hu : IsTup 5 cellsD w u ds) (ho : IsTup 3 cellsO w o os) (hx : IsInts w x W) (hd : ∀ d ∈ ds, DdOk d) (hn : ds.length ≤ 100) (hl : os.length = ds.length)
    (hS : (runs iKd.step (startI g) ((toldF (wB W) ds os).map Prod.fst)).2 = (toldF (wB W) ds os).map Prod.snd) :
    Calls Try.prog 24 #[v, u, o, x] w fun e w' => ToldSays g (toldF (wB W) ds os) w w' e := by
  have Hg := Lib.hid hg
  have HG := Lib.hid hG
  have Hu := Lib.hid hu
  have Ho := Lib.hid ho
  have Hx := Lib.hid hx
  have HD := Lib.hid hd
  have HS := Lib.hid hS
  have Hl := Lib.hid hl
  obtain ⟨au, cu, rfl, _⟩ := hu.slice
  obtain ⟨ao2, co2, rfl, _⟩ := ho.slice
  obtain ⟨vo, vr, rfl, ho, hr⟩ := hg
  obtain ⟨ao, co, rfl, hlo⟩ := ho.slice
  obtain ⟨ar, cr, rfl, hlr⟩ := hr.slice
  obtain ⟨n, hn'⟩ : ∃ n, ds.length = n := ⟨_, rfl⟩
  have Hn := Lib.hid hn'
  rw [hn'] at Hu Hl hl hn ⊢
  rw [hl] at Ho ⊢
  have hM0 := (((Mem.start w).alloc #[.slice ao g.objs.length co, .slice ar g.roots.length cr] 25).alloc #[.slice none 0 0, .slice none 0 0] 25)
  simp only [World.size_alloc] at hM0
  have hM1 := (hM0.nilT 89 3 cellsO).nilT 58 5 cellsD
  have HM1 := Lib.hid hM1
  clear ho hr hG hu hd hM0 hM1 hS hl hx hn'
  go_enter Try.func24, Try.ntmps24
  go_upto_region 6 with (fail)
  go_loopw [10, 11, 12, 13, 25] (fun s10 s11 _ _ s25 wq => ∃ k : Nat, k ≤ n ∧ s25 = .int .i64 (k : Int) ∧ Mem w.heap.size w wq [rowT 58 5 cellsD s10 ((toldF (wB W) (ds.take k) (os.take k)).map Prod.fst), rowT 89 3 cellsO s11 ((toldF (wB W) (ds.take k) (os.take k)).map Prod.snd), ebox (w.heap.size + 1) #[.slice none 0 0, .slice none 0 0] 25, ebox w.heap.size #[.slice ao g.objs.length co, .slice ar g.roots.length cr] 25]) (fun _ _ _ _ i _ => n - (intOf i).toNat)
  case atStart => exact ⟨0, Nat.zero_le _, rfl, HM1.out⟩
  case round =>
    clear HM1
    obtain ⟨k, hk, rfl, hM⟩ := hrel
    by_cases hlt : k < n
    · obtain ⟨d, hd⟩ := get_some ds k (by rw [Hn.out]; exact hlt)
      obtain ⟨q, hq⟩ := get_some os k (by rw [Hl.out]; exact hlt)
      have hlen : os.length = ds.length := by rw [Hl.out, Hn.out]
      have Hyes := Lib.hid (toldF_yes (W := wB W) hlen hd hq)
      have Hno := Lib.hid (toldF_no (W := wB W) hlen hd hq)
      have hlP : (toldF (wB W) (ds.take k) (os.take k)).length ≤ 1000 := by
        have := toldF_len (wB W) (ds.take k) (os.take k)
        rw [List.length_take] at this; omega
      obtain ⟨Y, hY⟩ : ∃ Y, toldF (wB W) (ds.take k) (os.take k) = Y := ⟨_, rfl⟩
      rw [hY] at hM hlP Hyes Hno
      obtain ⟨b, off, rfl, _, hb2, hc⟩ := Hu.out.at2 hM.below hd
      obtain ⟨b', off', rfl, _, hb2', hc'⟩ := Ho.out.at2 hM.below hq
      obtain ⟨dk, dt, df, da, dn⟩ := d
      obtain ⟨qc, qr, qn⟩ := q
      have c0 : wr.cell? ⟨b, off + k * 5, none⟩ = some (.int .i64 dk) := hc 0 _ rfl
      have c1 : wr.cell? ⟨b, off + k * 5 + 1, none⟩ = some (.int .i64 dt) := hc 1 _ rfl
      have c2 : wr.cell? ⟨b, off + k * 5 + 2, none⟩ = some (.int .i64 df) := hc 2 _ rfl
      have c3 : wr.cell? ⟨b, off + k * 5 + 3, none⟩ = some (.int .i64 da) := hc 3 _ rfl
      have c4 : wr.cell? ⟨b, off + k * 5 + 4, none⟩ = some (.int .i64 dn) := hc 4 _ rfl
      have hMa := hM.allocAt wr.heap.size rfl #[.int .i64 dk, .int .i64 dt, .int .i64 df, .int .i64 da, .int .i64 dn] 58
      obtain ⟨W6, hW6⟩ : ∃ W6, wr.alloc (.cells #[.int .i64 dk, .int .i64 dt, .int .i64 df, .int .i64 da, .int .i64 dn] 58) = W6 := ⟨_, rfl⟩
      have hb6 : Below wr.heap.size wr W6 := hW6 ▸ (Below.refl _ _).alloc (Nat.le_refl _) _
      rw [hW6] at hMa
      obtain ⟨b13, hb13⟩ : ∃ b13, wr.heap.size = b13 := ⟨_, rfl⟩
      have y0 : W6.cell? ⟨b', off' + k * 3, none⟩ = some (.int .i64 qc) := (hb6.cell (p := ⟨_, _, none⟩) hb2').trans (hc' 0 _ rfl)
      have y1 : W6.cell? ⟨b', off' + k * 3 + 1, none⟩ = some (.bool qr) := (hb6.cell (p := ⟨_, _, none⟩) hb2').trans (hc' 1 _ rfl)
      have y2 : W6.cell? ⟨b', off' + k * 3 + 2, none⟩ = some (.int .i64 qn) := (hb6.cell (p := ⟨_, _, none⟩) hb2').trans (hc' 2 _ rfl)
      rw [hb13] at hMa
      have d0 := hMa.cell 0 rfl 0
      have d1 := hMa.cell 0 rfl 1
      have d2 := hMa.cell 0 rfl 2
      have d3 := hMa.cell 0 rfl 3
      have d4 := hMa.cell 0 rfl 4
      have db := (hMa.box 0 rfl).2.1
      have hb7 : b' < W6.heap.size := Nat.lt_of_lt_of_le hb2' hb6.size
      have e2 : (k : Int) < (n : Int) := by omega
      have hXn : IsInts W6 x W := Hx.out.later hMa.below
      have HHas := Lib.hid (has_any x W dk W6 hXn)
      have HMa := Lib.hid hMa
      have HW6 := Lib.hid hW6
      have Hb13 := Lib.hid hb13
      have HlP := Lib.hid hlP
      have HOk : Hid (∀ X, Below w.heap.size w X → X.cell? ⟨b', off' + k * 3, none⟩ = some (.int .i64 qc) ∧ X.cell? ⟨b', off' + k * 3 + 1, none⟩ = some (.bool qr) ∧ X.cell? ⟨b', off' + k * 3 + 2, none⟩ = some (.int .i64 qn) ∧ b' < X.heap.size) := Lib.hid fun X hX => by
        obtain ⟨b2, off2, he, _, h3, h4⟩ := Ho.out.at2 hX hq
        cases he
        exact ⟨h4 0 _ rfl, h4 1 _ rfl, h4 2 _ rfl, h3⟩
      clear hd hq hc hc' hM hMa hb6 hW6 hb13 hlP hXn hlen hY
      go_upto_region 8 with (fail)
      rw [HW6.out, Hb13.out]
      go_wp2_with fail
      refine HHas.out.mono ?_
      rintro e w7 ⟨rfl, rfl⟩
      by_cases hw : hasB W dk = true
      · have hT := Hno.out (told_no1 hw)
        have HT := Lib.hid hT
        rw [hw]
        clear hT
        go_wp2_with fail
        go_roundw
        case rel => exact ⟨k + 1, by omega, by go_num, by rw [HT.out]; exact HMa.out.drop (List.sublist_cons_self _ _)⟩
        case measure => simp [intOf]; omega
      · have hw' : hasB W dk = false := by simpa using hw
        rw [hw']
        by_cases h6 : qc = 6
        · have hT := Hno.out (told_no2 h6)
          have HT := Lib.hid hT
          subst h6
          clear hT
          go_wp2_with fail
          go_roundw
          case rel => exact ⟨k + 1, by omega, by go_num, by rw [HT.out]; exact HMa.out.drop (List.sublist_cons_self _ _)⟩
          case measure => simp [intOf]; omega
        · have hT := Hyes.out (told_yes hw' h6)
          have HT := Lib.hid hT
          have hne : (qc != 6) = true := by simpa using h6
          have hl1 : (Y.map Prod.fst).length ≤ 1000000 := by have := HlP.out; rw [List.length_map]; omega
          have hl2 : (Y.map Prod.snd).length ≤ 1000000 := by have := HlP.out; rw [List.length_map]; omega
          clear hT
          go_wp2_with (first
            | (refine Mem.wp_appT elemDos rfl (.tmp 43) (.tmp 45) rfl HMa.out 1 rfl rfl _ ⟨dk, dt, df, da, dn⟩ #[.int .i64 dk, .int .i64 dt, .int .i64 df, .int .i64 da, .int .i64 dn] rfl _ _ rfl rfl rfl rfl (by decide) hl1 ?_
               intro ad n1 cp w8 hn1 hM8 hs8 hk8 ha8
               have hbb : Below w.heap.size w w8 := hM8.below
               have z0 : w8.cell? ⟨b', off' + k * 3, none⟩ = some (.int .i64 qc) := (HOk.out w8 hbb).1
               have z1 : w8.cell? ⟨b', off' + k * 3 + 1, none⟩ = some (.bool qr) := (HOk.out w8 hbb).2.1
               have z2 : w8.cell? ⟨b', off' + k * 3 + 2, none⟩ = some (.int .i64 qn) := (HOk.out w8 hbb).2.2.1
               have zb : b' < w8.heap.size := (HOk.out w8 hbb).2.2.2)
            | (refine Mem.wp_appT elemOuts rfl (.tmp 47) (.tmp 52) rfl hM8 2 rfl rfl _ ⟨qc, qr, qn⟩ #[.int .i64 qc, .bool qr, .int .i64 qn] rfl _ _ rfl rfl rfl rfl (by decide) hl2 ?_
               intro ad2 n2 cp2 w9 hn2 hM9 hs9 hk9 ha9)
            | fail)
          go_roundw
          case rel =>
            refine ⟨k + 1, by omega, by go_num, ?_⟩
            rw [HT.out, List.map_append, List.map_append]
            exact hM9.drop (List.sublist_cons_self _ _)
          case measure => simp [intOf]; omega
    · obtain rfl : k = n := by omega
      rw [List.take_of_length_le (by rw [Hn.out]; exact Nat.le_refl _), List.take_of_length_le (by rw [Hl.out]; exact Nat.le_refl _)] at hM
      obtain ⟨Y, hY⟩ : ∃ Y, toldF (wB W) ds os = Y := ⟨_, rfl⟩
      have hYd : ∀ d ∈ Y.map Prod.fst, DdOk d := by
        intro d hd
        obtain ⟨p, hp, rfl⟩ := List.mem_map.1 hd
        rw [← hY] at hp
        exact HD.out _ (mem_toldF hp)
      have hYl : Y.length ≤ 100 := by
        have := toldF_len (wB W) ds os
        rw [← hY]; rw [Hn.out] at this; omega
      have hS := HS.out
      rw [hY] at hM hS
      have HY := Lib.hid hY
      have r0 := hM.cell 3 rfl 0
      have r1 := hM.cell 3 rfl 1
      have rb := (hM.box 3 rfl).2.1
      have rb1 := (hM.box 2 rfl).2.1
      have hTu := hM.isTup 0 rfl (fun _ => rfl) (by rw [List.length_map]; omega)
      have hPl := iplay_yes g HG.out _ _ (Y.map Prod.fst) wr (Hg.out.later hM.below) hTu hYd (by rw [List.length_map]; exact hYl)
      obtain ⟨aD, nD, cD, rfl⟩ := own_slice (hM.row 0 rfl)
      obtain ⟨aO, nO, cO, rfl⟩ := own_slice (hM.row 1 rfl)
      have HPl := Lib.hid hPl
      have HM := Lib.hid hM
      have HS2 := Lib.hid hS
      have HYl := Lib.hid hYl
      clear hPl hM hS hY hYd hTu hYl
      go_wp2_with fail
      refine HPl.out.mono ?_
      rintro e w3 ⟨vl, v', c, rfl, hca, hga, hMa⟩
      rw [HS2.out] at hMa
      have hta := hMa.isTup 0 rfl (fun _ => rfl) (by have := HYl.out; rw [List.length_map]; omega)
      obtain ⟨a3, c3, rfl, _⟩ := hta.slice
      have hTo := (HM.out.isTup 1 rfl (fun _ => rfl) (by have := HYl.out; rw [List.length_map]; omega)).later hMa.below
      obtain ⟨vo3, vr3, rfl, ho3, hr3⟩ := hga.here
      obtain ⟨ao3, co3, rfl, _⟩ := ho3.slice
      obtain ⟨ar3, cr3, rfl, _⟩ := hr3.slice
      have hMb := (HM.out.call hMa.below).allocAt w3.heap.size rfl #[.slice ao3 c.objs.length co3, .slice ar3 c.roots.length cr3] 25
      obtain ⟨w4, hw4⟩ : ∃ w4, w4 = w3.alloc (.cells #[.slice ao3 c.objs.length co3, .slice ar3 c.roots.length cr3] 25) := ⟨_, rfl⟩
      have hb4 : Below w3.heap.size w3 w4 := by rw [hw4]; exact (Below.refl _ _).alloc (Nat.le_refl _) _
      rw [← hw4] at hMb
      obtain ⟨b15, hb15⟩ : ∃ b15, w3.heap.size = b15 := ⟨_, rfl⟩
      rw [hb15] at hMb
      have t0 := hMb.cell 0 rfl 0
      have t1 := hMb.cell 0 rfl 1
      have tb := (hMb.box 0 rfl).2.1
      have s0 := hMb.free 3 rfl 0
      have s1 := hMb.free 3 rfl 1
      have u0 := hMb.cell 3 rfl 0
      have u1 := hMb.cell 3 rfl 1
      have ub := (hMb.box 3 rfl).2.1
      have HMb := Lib.hid hMb
      have Hga : Hid (∀ X, Below w4.heap.size w4 X → ∀ a b, IsGraph ((X.setCell ⟨w.heap.size + 1, 0, none⟩ a).setCell ⟨w.heap.size + 1, 1, none⟩ b) (.agg #[.slice ao3 c.objs.length co3, .slice ar3 c.roots.length cr3]) c) := Lib.hid fun X hX a b => by
        have h1 := hb4.trans (hX.mono hb4.size)
        refine hga _ (by have := h1.size; simpa using this) fun i hi1 hi2 => ?_
        rw [heap_setCell_other _ _ _ _ (by simp only; omega), heap_setCell_other _ _ _ _ (by simp only; omega)]
        exact h1.block i hi2
      have Hou : Hid (∀ X, Below w4.heap.size w4 X → Calls Try.prog 17 #[.slice a3 Y.length c3, .slice aO nO cO] X fun e w' => e = .returned (.bool true) ∧ Below X.heap.size X w') :=
        Lib.hid fun X hX => by
          have := outs_yes _ _ _ X ((hta.later hb4).later hX) ((hTo.later hb4).later hX)
          rwa [List.length_map] at this
      have Hca := Lib.hid hca
      have Hw4 := Lib.hid hw4
      have Hb15 := Lib.hid hb15
      clear hMb hga hca hta hTo hMa hb4 hw4 hb15 ho3 hr3 HPl HS2
      go_upto_region 13 with (fail)
      rw [← Hw4.out, Hb15.out]
      clear Hw4 Hb15
      go_region_held3 (fun X => X.cell? ⟨b15, 0, none⟩ = some (.slice ao3 c.objs.length co3) ∧ X.cell? ⟨b15, 1, none⟩ = some (.slice ar3 c.roots.length cr3))
        (first | exact ⟨((hM5.setBox 3 rfl 0 (.slice ao3 c.objs.length co3)).setBox 3 rfl 1 (.slice ar3 c.roots.length cr3)).cell 0 rfl 0, ((hM5.setBox 3 rfl 0 (.slice ao3 c.objs.length co3)).setBox 3 rfl 1 (.slice ar3 c.roots.length cr3)).cell 0 rfl 1⟩ | exact ⟨((show Below w4.heap.size w4 _ from (by repeat (first | exact Below.refl _ _ | assumption | refine Below.setCell ?_ (by first | exact Nat.le_refl _ | (simp; done) | (simp; omega) | (simp at *; omega)) _ | refine Below.alloc ?_ (by first | exact Nat.le_refl _ | (simp; done) | (simp; omega) | (simp at *; omega)) _ | refine Below.drew ?_))).cell (p := ⟨_, _, none⟩) tb).trans t0, ((show Below w4.heap.size w4 _ from (by repeat (first | exact Below.refl _ _ | assumption | refine Below.setCell ?_ (by first | exact Nat.le_refl _ | (simp; done) | (simp; omega) | (simp at *; omega)) _ | refine Below.alloc ?_ (by first | exact Nat.le_refl _ | (simp; done) | (simp; omega) | (simp at *; omega)) _ | refine Below.drew ?_))).cell (p := ⟨_, _, none⟩) tb).trans t1⟩ | fail)
        (first
          | (go_at_call 17
             with_reducible refine (Hou.out _ (by repeat (first | exact Below.refl _ _ | assumption | refine Below.setCell ?_ (by first | exact Nat.le_refl _ | (simp; done) | (simp; omega) | (simp at *; omega)) _ | refine Below.alloc ?_ (by first | exact Nat.le_refl _ | (simp; done) | (simp; omega) | (simp at *; omega)) _ | refine Below.drew ?_))).mono ?_
             rintro e w5 ⟨rfl, hb5⟩
             have hB5 : Below w4.heap.size w4 w5 := by
               refine (show Below w4.heap.size w4 _ → _ from fun h => h.trans (hb5.mono h.size)) ?_
               exact (by repeat (first | exact Below.refl _ _ | assumption | refine Below.setCell ?_ (by first | exact Nat.le_refl _ | (simp; done) | (simp; omega) | (simp at *; omega)) _ | refine Below.alloc ?_ (by first | exact Nat.le_refl _ | (simp; done) | (simp; omega) | (simp at *; omega)) _ | refine Below.drew ?_))
             have hM5 := HMb.out.call hB5
             have x0 := hM5.free 3 rfl 0
             have x1 := hM5.free 3 rfl 1
             have x2 := hM5.cell 3 rfl 0
             have x3 := hM5.cell 3 rfl 1
             have xb := (hM5.box 3 rfl).2.1)
          | fail)
      all_goals
        have hM6 := (hM5.setBox 3 rfl 0 (.slice ao3 c.objs.length co3)).setBox 3 rfl 1 (.slice ar3 c.roots.length cr3)
        have z0 := hM6.cell 3 rfl 0
        have z1 := hM6.cell 3 rfl 1
        have hga2 := Hga.out w5 hB5 (.slice ao3 c.objs.length co3) (.slice ar3 c.roots.length cr3)
        have HB := Lib.hid hM6.below
        have HG2 := Lib.hid hga2
        clear hM5 hM6 hga2
        go_wp2_with fail
        obtain ⟨W9, hW9⟩ : ∃ W9, (w5.setCell ⟨w.heap.size + 1, 0, none⟩ (.slice ao3 c.objs.length co3)).setCell ⟨w.heap.size + 1, 1, none⟩ (.slice ar3 c.roots.length cr3) = W9 := ⟨_, rfl⟩
        have HB9 := HB.out
        have HG9 := HG2.out
        rw [hW9] at z0 z1 HB9 HG9 ⊢
        refine bodyPost_ret (v := .tuple #[.agg #[.slice ao3 c.objs.length co3, .slice ar3 c.roots.length cr3], .bool true]) (by simp [results, Try.results24, go_sem, z0, z1]) rfl ?_
        rw [HY.out]
        exact ⟨_, c, rfl, Hca.out, HG9, HB9⟩
end Go.Proofs.Ytmmcjjklmcfegaa

/- ReplicaSafe, walked. -/
namespace Go.Proofs.Ytmmcjjklmcfegaa
open Go.RowKit Go.Shelf

/-- Play, in any world of this call: both lists. -/
def PPlay3 (g : G) (ds : List Dd) (v u : Value) (w : World) (n nT : Nat) : Prop :=
  ∀ (X : World) (L : List Ent) (R : Ending → World → Prop), Mem w.heap.size w X L →
    (∀ aD cD aH cH l t w', Mem w.heap.size w w' (rowT 89 3 cellsO (.slice aD n cD) (runs pstep (startP g) ds).2 :: rowI 3 (.slice aH nT cH) (runs pstep (startP g) ds).1.x.row :: L) →
      R (.returned (.tuple #[.agg #[.slice aD n cD, .slice aH nT cH, .int .i64 ((runs pstep (startP g) ds).1.x.made.length : Int), .int .i64 l, .int .i64 t], .int .i64 0])) w') →
    Calls Try.prog 32 #[v, u] X R
theorem pPlay3 (g : G) (hG : Good g) (v u : Value) (ds : List Dd) (w : World) (hg : IsGraph w v g) (hu : IsTup 5 cellsD w u ds) (hd : ∀ d ∈ ds, DdOk d) (hn : ds.length ≤ 100) (n nT : Nat) (hnn : ds.length = n) (hnT : (runs pstep (startP g) ds).1.x.row.length = nT) : PPlay3 g ds v u w n nT := by
  intro X L R hM hR
  refine (pplay_yes g hG v u ds X (hg.later hM.below) (hu.later hM.below) hd hn).mono ?_
  rintro e w' ⟨s, vo, vt, hs, rfl, hM2⟩
  have hl : (runs pstep (startP g) ds).2.length = ds.length := runs_len _ _ _
  have t1 := hM2.isTup 0 rfl (fun _ => rfl) (by rw [hl]; omega)
  obtain ⟨aO, cO, rfl, _⟩ := t1.slice
  obtain ⟨aG, cG, rfl⟩ := hM2.intsSlice 1 rfl
  have hM3 := hM.callMem hM2
  subst hs
  rw [hl, hnn] at hM3 ⊢
  rw [hnT] at hM3 ⊢
  exact hR aO cO aG cG _ _ w' hM3
theorem ints1_new {B : Nat} {w0 w : World} {L : List Ent} (h : Mem B w0 w L) {x : Int} (hx : i64ok x) (t : TypeId) : IsInts (w.alloc (.cells #[.int .i64 x] t)) (.slice (some ⟨w.heap.size, 0, none⟩) 1 1) [x] := by
  have hM := h.alloc #[.int .i64 x] t
  refine ⟨some ⟨w.heap.size, 0, none⟩, 1, rfl, by simp, fun k z hk => ?_⟩
  match k with
  | 0 => cases hk; exact ⟨_, 0, rfl, by simp, hM.cell 0 rfl 0, hx⟩
  | k + 1 => simp at hk
theorem not_mem_take {l : List Int} (h : l.Nodup) {k : Nat} {x : Int} (hx : l[k]? = some x) : x ∉ l.take k := by
  intro hm
  obtain ⟨j, hj⟩ := List.getElem?_of_mem hm
  have hjl := (List.getElem?_eq_some_iff.1 hj).1
  rw [List.length_take] at hjl
  rw [List.getElem?_take_of_lt (by omega)] at hj
  have h1 := (List.getElem?_eq_some_iff.1 hj)
  have h2 := (List.getElem?_eq_some_iff.1 hx)
  obtain ⟨a1, b1⟩ := h1
  obtain ⟨a2, b2⟩ := h2
  have := (List.getElem_inj h).1 (b1.trans b2.symm)
  omega
set_option maxRecDepth 100000 in
set_option maxHeartbeats 8000000 in
theorem replicaSafe_good (g : G) (hG : Good g) (v : Value) (au : Option Addr) (cu : Nat) (ds : List Dd) (w : World) (hg : IsGraph w v g) (hu : IsTup 5 cellsD w (.slice au ds.length cu) ds) (hd : ∀ d ∈ ds, DdOk d) (hn : ds.length ≤ 100) :
    Calls Try.prog 10 #[v, .slice au ds.length cu] w fun e w' => e = .returned (.bool true) ∧ Below w.heap.size w w' := by
  have Hg := Lib.hid hg
  obtain ⟨vo, vr, rfl, ho, hr⟩ := hg
  obtain ⟨ao, co, rfl, hlo⟩ := ho.slice
  obtain ⟨ar, cr, rfl, hlr⟩ := hr.slice
  have hM0 := (Mem.start w).alloc #[.slice ao g.objs.length co, .slice ar g.roots.length cr] 25
  obtain ⟨L, hL⟩ : ∃ L, ds.length = L := ⟨_, rfl⟩
  obtain ⟨S, hS⟩ : ∃ S, runs pstep (startP g) ds = S := ⟨_, rfl⟩
  have hi := runsP_inv hG ds.length ds (Nat.le_refl _) hn
  rw [List.take_length, hS] at hi
  obtain ⟨hi, hi2, _⟩ := hi
  obtain ⟨t, ht1, ht2, ht3⟩ := rep_told hG hn
  obtain ⟨nT, hnT⟩ : ∃ nT, S.1.x.row.length = nT := ⟨_, rfl⟩
  have hP := pPlay3 g hG _ _ ds w Hg.out hu hd hn L nT hL (by rw [hS]; exact hnT)
  unfold PPlay3 at hP
  have hlo : S.2.length = L := by rw [← hS, runs_len]; exact hL
  rw [hL] at hP
  rw [hS] at hP ht1 ht2
  have hmd := hi.madeLe
  rw [hnT] at hmd
  have hrl := hi.rowLe
  rw [hnT] at hrl
  obtain ⟨O1, hO1⟩ : ∃ O1, S.2 = O1 := ⟨_, rfl⟩
  obtain ⟨G1, hG1⟩ : ∃ G1, S.1.x.row = G1 := ⟨_, rfl⟩
  obtain ⟨nm, hnm⟩ : ∃ nm, S.1.x.made.length = nm := ⟨_, rfl⟩
  rw [hnm] at hmd
  rw [hO1, hG1, hnm] at hP
  rw [hO1] at ht1 hlo
  have hgok : ∀ x ∈ G1, i64ok x := by
    intro x hx
    rw [← hG1] at hx
    have h1 := (hi.row x).1 hx
    have h2 := h1.lt
    have h3 := h1.1
    exact ⟨by omega, by omega⟩
  have hnd : G1.Nodup := by rw [← hG1]; exact hi.rown
  have hcl : ∀ c, CanonS (gOf t.regs t.os) c → c.objs.length ≤ nT := by
    intro c hc
    have := canon_le ht2 ht3 hc
    rw [← hnT, hi.rowPerm.length_eq]
    exact this
  rw [hG1] at hnT
  have HP := Lib.hid hP
  have HM0 := Lib.hid hM0
  have HT := Lib.hid ht1
  have Hlo := Lib.hid hlo
  have HnT := Lib.hid hnT
  have Hgok := Lib.hid hgok
  have Hnd := Lib.hid hnd
  have Hcl := Lib.hid hcl
  have HL := Lib.hid hL
  have HG := Lib.hid hG
  have HD := Lib.hid hd
  have Hu := Lib.hid hu
  have hnT2 : nT ≤ 1000 := by omega
  rw [hL] at hn Hu ⊢
  clear hM0 ho hr hi hi2 ht1 ht2 ht3 hP hlo hO1 hG1 hnm hnT hL hS hG hd hu hgok hcl hnd hrl
  go_enter Try.func10, Try.ntmps10
  go_wp2_with fail
  refine HP.out _ _ _ HM0.out ?_
  intro aO cO aG cG ll tt w1 hM1
  have hM1 := hM1.alloc #[.slice aO L cO, .slice aG nT cG, .int .i64 (nm : Int), .int .i64 ll, .int .i64 tt] 60
  obtain ⟨W1, hW1⟩ : ∃ W1, w1.alloc (.cells #[.slice aO L cO, .slice aG nT cG, .int .i64 (nm : Int), .int .i64 ll, .int .i64 tt] 60) = W1 := ⟨_, rfl⟩
  rw [hW1] at hM1
  obtain ⟨b7, hb7⟩ : ∃ b7, w1.heap.size = b7 := ⟨_, rfl⟩
  rw [hb7] at hM1
  have hO := hM1.isTup 1 rfl (fun _ => rfl) (by have := Hlo.out; omega)
  have g0 := hM1.cell 3 rfl 0
  have g1 := hM1.cell 3 rfl 1
  have gb := (hM1.box 3 rfl).2.1
  have c0 := hM1.cell 0 rfl 0
  have cb := (hM1.box 0 rfl).2.1
  have hM1b := hM1.alloc #[.int .i64 8] 3
  have hTo := told_any g HG.out (.agg #[.slice ao g.objs.length co, .slice ar g.roots.length cr]) (.slice au L cu) (.slice aO L cO) (.slice (some ⟨W1.heap.size, 0, none⟩) 1 1) ds O1 [8] _ (Hg.out.later hM1b.below) (Hu.out.later hM1b.below) (hO.later ((Below.refl _ _).alloc (Nat.le_refl _) _)) (ints1_new hM1 ⟨by omega, by omega⟩ 3) HD.out (by rw [HL.out]; exact hn) (by rw [Hlo.out, HL.out]) (by rw [HT.out])
  have HM1b := Lib.hid hM1b
  have HTo := Lib.hid hTo
  have HM1 := Lib.hid hM1
  have HW1 := Lib.hid hW1
  have Hb7 := Lib.hid hb7
  clear hM1 hM1b hW1 hb7 HP HM0 hO hTo
  go_upto_region 4 with (fail)
  rw [HW1.out, Hb7.out]
  go_wp2_with fail
  refine HTo.out.mono ?_
  rintro e w2 ⟨v', c, rfl, hca, hgc, hb2⟩
  rw [HT.out] at hca
  have hcn := Hcl.out c hca
  have q3 : ¬ (nT : Int) < (c.objs.length : Int) := by omega
  have q4 : ¬ (nT : Int) < (nm : Int) := by omega
  obtain ⟨vo3, vr3, rfl, ho3, hr3⟩ := hgc
  obtain ⟨ao3, co3, rfl, _⟩ := ho3.slice
  obtain ⟨ar3, cr3, rfl, _⟩ := hr3.slice
  have hM2 := ((HM1b.out.call hb2).drop (List.sublist_cons_self _ _)).alloc #[.slice ao3 c.objs.length co3, .slice ar3 c.roots.length cr3] 25
  obtain ⟨W2, hW2⟩ : ∃ W2, w2.alloc (.cells #[.slice ao3 c.objs.length co3, .slice ar3 c.roots.length cr3] 25) = W2 := ⟨_, rfl⟩
  rw [hW2] at hM2
  obtain ⟨b9, hb9⟩ : ∃ b9, w2.heap.size = b9 := ⟨_, rfl⟩
  rw [hb9] at hM2
  have d1 := hM2.cell 1 rfl 1
  have d2 := hM2.cell 1 rfl 2
  have db := (hM2.box 1 rfl).2.1
  have e0 := hM2.cell 0 rfl 0
  have eb := (hM2.box 0 rfl).2.1
  have tG := isInts_of_own (hM2.row 3 rfl) (by have := HnT.out; omega) Hgok.out
  have HtG := Lib.hid tG
  have HNz := Lib.hid hM2
  have HW2 := Lib.hid hW2
  have Hb9 := Lib.hid hb9
  clear hM2 hW2 hb9 hca hb2 ho3 hr3 g0 g1 gb c0 cb HTo HM1 HW1 Hb7 tG HM1b
  go_upto_region 5 with (fail)
  rw [HW2.out, Hb9.out]
  clear HW2 Hb9
  go_wp2_with fail
  go_loopw [9] (fun s9 wr => ∃ k : Nat, k ≤ nT ∧ s9 = .int .i64 (k : Int) ∧ ∃ q, wr = W2.drewN q) (fun s9 _ => nT - (intOf s9).toNat)
  case atStart => exact ⟨0, Nat.zero_le _, rfl, 0, rfl⟩
  case round =>
    obtain ⟨k, hk, rfl, q, hwr⟩ := hrel
    have hB : Below W2.heap.size W2 wr := by rw [hwr]; exact below_drewN (Below.refl _ _) q
    have hMX := HNz.out.call hB
    have d1 := hMX.cell 1 rfl 1
    have db := (hMX.box 1 rfl).2.1
    have HBl := Lib.hid hMX.below
    by_cases hlt : k < nT
    · obtain ⟨x, hx⟩ := get_some G1 k (by rw [HnT.out]; exact hlt)
      obtain ⟨ga, gc, hgv, _, ggb, hcell, _⟩ := hMX.intsAt 3 rfl (List.ne_nil_of_mem (List.mem_of_getElem? hx))
      have x0 := hcell k x hx
      have haG : aG = some ⟨ga, 0, none⟩ := by cases hgv; rfl
      have hcG : nT ≤ cG := by
        have := ownCap (hMX.row 3 rfl)
        rwa [HnT.out] at this
      have HQ : Hid (∀ p, Calls Try.prog 33 #[.slice aG k cG, .int .i64 x] (wr.drewN p) fun e w' => e = .returned (.bool false) ∧ w' = wr.drewN p) := Lib.hid (fun p => by
        have h1 := isInts_take (HtG.out.later (hB.trans (below_drewN (Below.refl _ wr) p |>.mono hB.size))) k (by rw [HnT.out]; omega)
        exact (has_no _ _ x _ h1 (not_mem_take Hnd.out hx)).mono (fun _ _ h => ⟨h.1, h.2.symm⟩))
      have Hwr := Lib.hid hwr
      have n1 : k ≤ cG := by omega
      have n2 : (k : Int) ≤ (cG : Int) := by omega
      have n3 : (k : Int) < (nT : Int) := by omega
      subst haG
      clear hMX hB hcell hgv hx hwr
      go_wp2_with fail
      go_quiet (first | (exact Calls.quiet_of_same (HQ.out _)) | fail)
      go_wp2_with fail
      go_roundw
      case rel => exact ⟨k + 1, by omega, by go_num, _, by rw [Hwr.out]; exact World.drewN_drewN _ _ _⟩
      case measure => simp [intOf]; omega
    · obtain rfl : k = nT := by omega
      clear hMX hB
      go_wp2_with fail
      refine bodyPost_ret (v := .bool true) (by simp [results, Try.results10, go_sem]) rfl ⟨rfl, by rw [← hwr]; exact HBl.out⟩
set_option maxRecDepth 100000 in
set_option maxHeartbeats 2000000 in
theorem replicaSafe_bad (g : G) (v : Value) (u : Value) (ds : List Dd) (hk : ¬ (Good g ∧ ds.length ≤ 100)) (w : World) (hg : IsGraph w v g) (hu : IsTup 5 cellsD w u ds) :
    Calls Try.prog 10 #[v, u] w fun e w' => e = .returned (.bool true) ∧ Below w.heap.size w w' := by
  have Hg := Lib.hid hg
  obtain ⟨au, cu, rfl, _⟩ := hu.slice
  obtain ⟨vo, vr, rfl, ho, hr⟩ := hg
  obtain ⟨ao, co, rfl, hlo⟩ := ho.slice
  obtain ⟨ar, cr, rfl, hlr⟩ := hr.slice
  have hM0 := (Mem.start w).alloc #[.slice ao g.objs.length co, .slice ar g.roots.length cr] 25
  have HP1 := Lib.hid (pplay_no g _ _ ds _ (Hg.out.later hM0.below) (hu.later hM0.below) hk)
  have HM0 := Lib.hid hM0
  clear hu hM0 ho hr hk
  go_enter Try.func10, Try.ntmps10
  go_wp2_with fail
  refine HP1.out.mono ?_
  rintro e w1 ⟨c, hc, rfl, hb1⟩
  rw [show NilR = .agg #[.slice none 0 0, .slice none 0 0, .int .i64 0, .int .i64 0, .int .i64 0] from rfl]
  have hM1 := (HM0.out.call hb1).alloc #[.slice none 0 0, .slice none 0 0, .int .i64 0, .int .i64 0, .int .i64 0] 60
  have HB := Lib.hid hM1.below
  have hcn : (c != 0) = true := by rw [bne, hc]; rfl
  clear hM1 hb1
  go_wp2
  go_ret
  exact ⟨rfl, HB.out⟩
theorem replicaSafe_walk (W : World) (v0 v1 : Value) (g0 : ∃ g, IsGraph W v0 g) (g1 : ∃ ds, IsTup 5 cellsD W v1 ds ∧ ∀ d ∈ ds, DdOk d) :
    Calls Try.prog 10 #[v0, v1] W fun e w' => e = .returned (.bool true) ∧ Below W.heap.size W w' := by
  obtain ⟨g, hg⟩ := g0
  obtain ⟨ds, hu, hd⟩ := g1
  by_cases hk : Good g ∧ ds.length ≤ 100
  · obtain ⟨a, c, rfl, _⟩ := hu.slice
    exact replicaSafe_good g hk.1 v0 a c ds W hg hu hd hk.2
  · exact replicaSafe_bad g v0 v1 ds hk W hg hu
end Go.Proofs.Ytmmcjjklmcfegaa

/- ReplicaEnds: what as many works do. Plain. -/
namespace Go.Proofs.Ytmmcjjklmcfegaa

def dWk : Dd := ⟨8, 0, 0, 0, 0⟩
/-- All are exchanged with as many works, and again; and then what is there is what can be come to. -/
theorem rep_ends {g : G} (hG : Good g) (ds : List Dd) (n w : Nat) (hds : ds.length ≤ 100) (hn : (runs pstep (startP g) ds).1.x.row.length = n) (hw : (runs pstep (startP g) ds).1.x.log.length = w) :
    (runs pstep (startP g) ds).1.x.times < (runs pstep (startP g) (ds ++ List.replicate (w + n + 9) dWk)).1.x.times ∧
    (runs pstep (startP g) (ds ++ List.replicate (w + n + 9) dWk)).1.x.times < (runs pstep (startP g) ((ds ++ List.replicate (w + n + 9) dWk) ++ List.replicate (n + 9) dWk)).1.x.times ∧
    Tight (runs pstep (startP g) ((ds ++ List.replicate (w + n + 9) dWk) ++ List.replicate (n + 9) dWk)).1 := by
  have hi := (runsP_inv hG ds.length ds (Nat.le_refl _) hds).1
  rw [List.take_length] at hi
  have e : ∀ xs bs : List Dd, (runs pstep (startP g) (xs ++ bs)).1 = (runs pstep (runs pstep (startP g) xs).1 bs).1 := fun xs bs => by rw [runs_append]
  rw [e (ds ++ List.replicate (w + n + 9) dWk), e ds]
  obtain ⟨S, hS⟩ : ∃ S, (runs pstep (startP g) ds).1 = S := ⟨_, rfl⟩
  rw [hS] at hi hn hw ⊢
  rw [runs_works _ _ dWk rfl, runs_works _ _ dWk rfl]
  have h1 := rounds_once (w + n + 9) hi (by have := phi_le hi; omega)
  have h2 := iterP_keep (w + n + 9) hi
  have h3 := phi_le h2.1
  have h4 : (iterP (w + n + 9) S).x.log.length = 0 := by rw [h1.2.1.log]; rfl
  have h5 := h2.2.2.1
  have h6 := rounds_once (n + 9) h2.1 (by omega)
  exact ⟨h1.1, h6.1, h6.2.2 h1.2.1⟩
end Go.Proofs.Ytmmcjjklmcfegaa

/- ragpickerkeep.works, walked. -/
namespace Go.Proofs.Ytmmcjjklmcfegaa
open Go.RowKit Go.Shelf

set_option maxRecDepth 100000 in
set_option maxHeartbeats 2000000 in
theorem worksK_any (n : Nat) (hn : n ≤ 1000) (w : World) : Calls Try.prog 34 #[.int .i64 (n : Int)] w fun e w' => ∃ v, e = .returned v ∧ Mem w.heap.size w w' [rowT 58 5 cellsD v (List.replicate n dWk)] := by
  have hM0 := (Mem.start w).nilT 58 5 cellsD
  have HM0 := Lib.hid hM0
  clear hM0
  go_enter Try.func34, Try.ntmps34
  go_upto_region 3 with (fail)
  go_loopw [3, 4] (fun s3 s4 wr => ∃ (k : Nat) (vD : Value), k ≤ n ∧ vD = s3 ∧ s4 = .int .i64 (k : Int) ∧ Mem w.heap.size w wr [rowT 58 5 cellsD vD (List.replicate k dWk)]) (fun _ i _ => n - (intOf i).toNat)
  case atStart => exact ⟨0, _, Nat.zero_le _, rfl, rfl, HM0.out⟩
  case round =>
    clear HM0
    obtain ⟨k, vD, hk, rfl, rfl, hM⟩ := hrel
    by_cases hlt : k < n
    · have e1 : (k : Int) < (n : Int) := by omega
      obtain ⟨aD, nD, cD, rfl⟩ := own_slice (hM.row 0 rfl)
      have hk1000 : (List.replicate k dWk).length ≤ 1000000 := by rw [List.length_replicate]; omega
      have HM := Lib.hid hM
      clear hM
      go_wp2_with (at_builtin; refine Mem.wp_appT elemDos rfl (.tmp 10) (.tmp 12) rfl HM.out 0 rfl rfl _ dWk #[.int .i64 8, .int .i64 0, .int .i64 0, .int .i64 0, .int .i64 0] rfl _ _ rfl (by simp) rfl rfl (by decide) hk1000 ?_; intro ad n1 cp w6 hn1 hM6 hs6 hk6 ha6)
      go_roundw
      case rel => exact ⟨k + 1, _, by omega, rfl, by go_num, by rw [List.replicate_succ']; exact hM6⟩
      case measure => simp [intOf]; omega
    · obtain rfl : k = n := by omega
      have e1 : ¬ (k : Int) < (k : Int) := by omega
      have HM := Lib.hid hM
      clear hM
      go_wp2
      go_ret
      exact ⟨_, rfl, HM.out⟩
end Go.Proofs.Ytmmcjjklmcfegaa

/- behind: one script behind the other, walked. -/
namespace Go.Proofs.Ytmmcjjklmcfegaa
open Go.RowKit Go.Shelf

theorem isTup_own4 {α : Type} {sz : Nat} {enc : α → List Value} {w : World} {v : Value} {l : List α} {B : Nat} {e : TypeId} (hz : ∀ x, (enc x).length = sz) (h : w.ownsRow B e sz v l.length (l.flatMap enc)) (hl : l.length ≤ 4000000) : IsTup sz enc w v l := by
  rcases h.2 with ⟨rfl, h0⟩ | ⟨g, cap, cur, rfl, _, hg, _⟩
  · have : l = [] := List.eq_nil_of_length_eq_zero h0
    subst this
    exact ⟨none, 0, rfl, by simp, by simp⟩
  · refine ⟨_, cap, rfl, by omega, fun k x hx => ?_⟩
    have hk : k < l.length := (List.getElem?_eq_some_iff.1 hx).1
    refine ⟨g, 0, rfl, (Array.getElem?_eq_some_iff.1 hg).1, fun j u hu => ?_⟩
    have hj : j < sz := by rw [← hz x]; exact (List.getElem?_eq_some_iff.1 hu).1
    have hlt : k * sz + j < l.length * sz := by
      have := Nat.mul_le_mul_right sz (show k + 1 ≤ l.length by omega)
      rw [Nat.add_mul] at this; omega
    rw [Nat.zero_add, h.cellAt _ hlt]
    exact getElem_tup hz l k x hx j u hu
/-- append(l, y), of up to four million. -/
theorem Mem.wp_appT4 {P : Program} {B : Nat} {w0 w : World} {L : List Ent} {t e : TypeId} {z : Value} {α : Type} {sz bytes : Nat} {enc : α → List Value} (T : Elem P t e sz bytes z) {ops : Array Oper} {rest : List Oper} {o : Oper} {ac : Act} {Q : Exit → Act → World → Prop} (hgd : o.guard = none) (s x : Operand)
    (ho : o.op = .call { callee := .builtin .append, args := #[s, x], argTypes := #[t, t] }) (h : Mem B w0 w L) (k : Nat) {v : Value} {l : List α} (hk : L[k]? = some (rowT e sz enc v l))
    (hs : ac.eval s = v) (c : Nat) (y : α) (news : Array Value) (hy : enc y = news.toList) (e2 : TypeId) (bl : Nat) (hx : ac.eval x = .slice (some ⟨bl, 0, none⟩) 1 c) (hbl : w.heap.size = bl) (hsz : news.size = sz)
    (h1 : news.toList.all (·.oneCell') = true) (hb : bytes ≤ 1000) (hn : l.length ≤ 4000000)
    (hh : ∀ ad cap w', Mem B w0 w' (L.set k (rowT e sz enc (.slice ad (l.length + 1) cap) (l ++ [y]))) → w.heap.size < w'.heap.size → wpList P ops Q rest (ac.put o.dst (.slice ad (l.length + 1) cap)) w') :
    wpList P ops Q (o :: rest) ac (w.alloc (.cells news e2)) := by
  subst hbl
  refine Mem.wp_append T hgd s x ho (h.alloc_ _) k hk hs ⟨w.heap.size, 0, none⟩ 1 c news.toList hx (by simpa using hsz) ?_ ?_ ?_ ?_ ?_
  · intro j u hj
    have e : (⟨w.heap.size, 0, none⟩ : Addr).add j = ⟨w.heap.size, j, none⟩ := by unfold Addr.add; split <;> simp_all
    rw [e, World.cell?_alloc_new]
    simpa using hj
  · intro u hu
    exact List.all_eq_true.1 h1 u hu
  · simp only [maxLen]; omega
  · have := Nat.mul_le_mul (show l.length + 1 ≤ 4000001 by omega) hb
    omega
  · intro ad cap w' h2 h3 h4 h5
    refine hh ad cap w' (h2.cast ?_) (by simp at h3; omega)
    simp [rowT, hy]
set_option maxRecDepth 100000 in
set_option maxHeartbeats 4000000 in
theorem behind_any (u v : Value) (a b : List Dd) (w : World) (hu : IsTup 5 cellsD w u a) (hv : IsTup 5 cellsD w v b) (hn : a.length + b.length ≤ 4000000) :
    Calls Try.prog 16 #[u, v] w fun e w' => ∃ x, e = .returned x ∧ Mem w.heap.size w w' [rowT 58 5 cellsD x (a ++ b)] := by
  have Hu := Lib.hid hu
  have Hv := Lib.hid hv
  obtain ⟨au, cu, rfl, _⟩ := hu.slice
  obtain ⟨av, cv, rfl, _⟩ := hv.slice
  obtain ⟨n, hna⟩ : ∃ n, a.length = n := ⟨_, rfl⟩
  obtain ⟨m, hnb⟩ : ∃ m, b.length = m := ⟨_, rfl⟩
  rw [hna] at Hu hn ⊢
  rw [hnb] at Hv hn ⊢
  have Hna := Lib.hid hna
  have Hnb := Lib.hid hnb
  have HM := Lib.hid ((Mem.start w).nilT 58 5 cellsD)
  clear hu hv hna hnb
  go_enter Try.func16, Try.ntmps16
  go_upto_region 3 with (fail)
  go_loopw [5, 7, 12] (fun s5 _ s12 wq => ∃ (k : Nat) (ad : Option Addr) (c2 : Nat), k ≤ n ∧ s12 = .int .i64 (k : Int) ∧ s5 = .slice ad k c2 ∧ Mem w.heap.size w wq [rowT 58 5 cellsD s5 (a.take k)]) (fun _ _ i _ => n - (intOf i).toNat)
  case atStart => exact ⟨0, none, 0, Nat.zero_le _, rfl, rfl, HM.out⟩
  case round =>
    clear HM
    obtain ⟨k, ad, c2, hk, rfl, rfl, hM⟩ := hrel
    by_cases hlt : k < n
    · obtain ⟨d, hd⟩ := get_some a k (by rw [Hna.out]; exact hlt)
      obtain ⟨b0, off, rfl, _, hb2, hc⟩ := Hu.out.at2 hM.below hd
      obtain ⟨dk, dt, df, da, dn⟩ := d
      have c0 : wr.cell? ⟨b0, off + k * 5, none⟩ = some (.int .i64 dk) := hc 0 _ rfl
      have c1 : wr.cell? ⟨b0, off + k * 5 + 1, none⟩ = some (.int .i64 dt) := hc 1 _ rfl
      have c2' : wr.cell? ⟨b0, off + k * 5 + 2, none⟩ = some (.int .i64 df) := hc 2 _ rfl
      have c3 : wr.cell? ⟨b0, off + k * 5 + 3, none⟩ = some (.int .i64 da) := hc 3 _ rfl
      have c4 : wr.cell? ⟨b0, off + k * 5 + 4, none⟩ = some (.int .i64 dn) := hc 4 _ rfl
      have HS := Lib.hid (take_succ_some _ _ _ hd)
      have e2 : (k : Int) < (n : Int) := by omega
      have hlY : (a.take k).length = k := by rw [List.length_take, Hna.out]; omega
      obtain ⟨Y, hY⟩ : ∃ Y, a.take k = Y := ⟨_, rfl⟩
      rw [hY] at hM HS hlY
      have hl4 : Y.length ≤ 4000000 := by omega
      have hMa := hM.alloc_ (.cells #[.int .i64 dk, .int .i64 dt, .int .i64 df, .int .i64 da, .int .i64 dn] 58)
      have HMa := Lib.hid hMa
      have HlY := Lib.hid hlY
      clear hd hc hM hMa hY hlY
      go_wp2_with (first
        | (refine Mem.wp_appT4 elemDos rfl (.tmp 16) (.tmp 18) rfl HMa.out 0 rfl rfl _ ⟨dk, dt, df, da, dn⟩ #[.int .i64 dk, .int .i64 dt, .int .i64 df, .int .i64 da, .int .i64 dn] rfl _ _ rfl (by simp) rfl rfl (by decide) hl4 ?_
           intro ad2 cp w8 hM8 hs8)
        | fail)
      go_roundw
      case rel =>
        rw [HlY.out] at hM8 ⊢
        exact ⟨k + 1, ad2, cp, by omega, by go_num, rfl, by rw [HS.out]; exact hM8⟩
      case measure => simp [intOf]; omega
    · obtain rfl : k = n := by omega
      rw [List.take_of_length_le (by rw [Hna.out]; exact Nat.le_refl _)] at hM
      have HM := Lib.hid hM
      clear hM
      go_upto_region 8 with (fail)
      go_loopw [5, 9, 23] (fun s5 _ s23 wq => ∃ (j : Nat) (ad : Option Addr) (c2 : Nat), j ≤ m ∧ s23 = .int .i64 (j : Int) ∧ s5 = .slice ad (k + j) c2 ∧ Mem w.heap.size w wq [rowT 58 5 cellsD s5 (a ++ b.take j)]) (fun _ _ i _ => m - (intOf i).toNat)
      case atStart => exact ⟨0, ad, c2, Nat.zero_le _, rfl, rfl, by rw [List.take_zero, List.append_nil]; exact HM.out⟩
      case round =>
        clear HM
        obtain ⟨j, ad, c2, hj, rfl, rfl, hM⟩ := hrel
        by_cases hltj : j < m
        · obtain ⟨d, hd⟩ := get_some b j (by rw [Hnb.out]; exact hltj)
          obtain ⟨b0, off, rfl, _, hb2, hc⟩ := Hv.out.at2 hM.below hd
          obtain ⟨dk, dt, df, da, dn⟩ := d
          have c0 : wr.cell? ⟨b0, off + j * 5, none⟩ = some (.int .i64 dk) := hc 0 _ rfl
          have c1 : wr.cell? ⟨b0, off + j * 5 + 1, none⟩ = some (.int .i64 dt) := hc 1 _ rfl
          have c2' : wr.cell? ⟨b0, off + j * 5 + 2, none⟩ = some (.int .i64 df) := hc 2 _ rfl
          have c3 : wr.cell? ⟨b0, off + j * 5 + 3, none⟩ = some (.int .i64 da) := hc 3 _ rfl
          have c4 : wr.cell? ⟨b0, off + j * 5 + 4, none⟩ = some (.int .i64 dn) := hc 4 _ rfl
          have HS : Hid (a ++ b.take (j + 1) = a ++ b.take j ++ [⟨dk, dt, df, da, dn⟩]) := Lib.hid (by rw [take_succ_some _ _ _ hd, List.append_assoc])
          have e2 : (j : Int) < (m : Int) := by omega
          have hlY : (a ++ b.take j).length = k + j := by rw [List.length_append, List.length_take, Hna.out, Hnb.out]; omega
          obtain ⟨Y, hY⟩ : ∃ Y, a ++ b.take j = Y := ⟨_, rfl⟩
          rw [hY] at hM HS hlY
          have hl4 : Y.length ≤ 4000000 := by omega
          have hMa := hM.alloc_ (.cells #[.int .i64 dk, .int .i64 dt, .int .i64 df, .int .i64 da, .int .i64 dn] 58)
          have HMa := Lib.hid hMa
          have HlY := Lib.hid hlY
          clear hd hc hM hMa hY hlY
          go_wp2_with (first
            | (refine Mem.wp_appT4 elemDos rfl (.tmp 27) (.tmp 29) rfl HMa.out 0 rfl rfl _ ⟨dk, dt, df, da, dn⟩ #[.int .i64 dk, .int .i64 dt, .int .i64 df, .int .i64 da, .int .i64 dn] rfl _ _ rfl (by simp) rfl rfl (by decide) hl4 ?_
               intro ad2 cp w8 hM8 hs8)
            | fail)
          go_roundw
          case rel =>
            rw [HlY.out] at hM8 ⊢
            exact ⟨j + 1, ad2, cp, by omega, by go_num, rfl, by rw [HS.out]; exact hM8⟩
          case measure => simp [intOf]; omega
        · obtain rfl : j = m := by omega
          rw [List.take_of_length_le (by rw [Hnb.out]; exact Nat.le_refl _)] at hM
          go_wp2
          go_ret
          exact ⟨_, rfl, hM⟩
end Go.Proofs.Ytmmcjjklmcfegaa

/- ReplicaEnds, walked. -/
namespace Go.Proofs.Ytmmcjjklmcfegaa
open Go.RowKit Go.Shelf

/-- Play, in any world of this call: all that it hands back. -/
def PPlay5 (g : G) (ds : List Dd) (v u : Value) (w : World) (n nT nm nl : Nat) (tm : Int) : Prop :=
  ∀ (X : World) (L : List Ent) (R : Ending → World → Prop), Mem w.heap.size w X L → IsTup 5 cellsD X u ds →
    (∀ aD cD aH cH w', Mem w.heap.size w w' (rowT 89 3 cellsO (.slice aD n cD) (runs pstep (startP g) ds).2 :: rowI 3 (.slice aH nT cH) (runs pstep (startP g) ds).1.x.row :: L) → Below X.heap.size X w' →
      R (.returned (.tuple #[.agg #[.slice aD n cD, .slice aH nT cH, .int .i64 (nm : Int), .int .i64 (nl : Int), .int .i64 tm], .int .i64 0])) w') →
    Calls Try.prog 32 #[v, u] X R
theorem pPlay5 (g : G) (hG : Good g) (v u : Value) (ds : List Dd) (w : World) (hg : IsGraph w v g) (hd : ∀ d ∈ ds, DdOk d) (hn : ds.length ≤ 100) (n nT nm nl : Nat) (tm : Int) (hnn : ds.length = n) (hnT : (runs pstep (startP g) ds).1.x.row.length = nT) (hnm : (runs pstep (startP g) ds).1.x.made.length = nm) (hnl : (runs pstep (startP g) ds).1.x.log.length = nl) (htm : (runs pstep (startP g) ds).1.x.times = tm) : PPlay5 g ds v u w n nT nm nl tm := by
  intro X L R hM hu hR
  refine (pplay_yes g hG v u ds X (hg.later hM.below) hu hd hn).mono ?_
  rintro e w' ⟨s, vo, vt, hs, rfl, hM2⟩
  have hl : (runs pstep (startP g) ds).2.length = ds.length := runs_len _ _ _
  have t1 := hM2.isTup 0 rfl (fun _ => rfl) (by rw [hl]; omega)
  obtain ⟨aO, cO, rfl, _⟩ := t1.slice
  obtain ⟨aG, cG, rfl⟩ := hM2.intsSlice 1 rfl
  have hM3 := hM.callMem hM2
  subst hs
  rw [hl, hnn] at hM3 ⊢
  rw [hnT] at hM3 ⊢
  rw [hnm, hnl, htm]
  exact hR aO cO aG cG w' hM3 hM2.below
set_option maxRecDepth 100000 in
set_option maxHeartbeats 8000000 in
theorem replicaEnds_good (g : G) (hG : Good g) (v : Value) (au : Option Addr) (cu : Nat) (ds : List Dd) (w : World) (hg : IsGraph w v g) (hu : IsTup 5 cellsD w (.slice au ds.length cu) ds) (hd : ∀ d ∈ ds, DdOk d) (hn : ds.length ≤ 100) :
    Calls Try.prog 11 #[v, .slice au ds.length cu] w fun e w' => e = .returned (.bool true) ∧ Below w.heap.size w w' := by
  have Hg := Lib.hid hg
  obtain ⟨vo, vr, rfl, ho, hr⟩ := hg
  obtain ⟨ao, co, rfl, hlo⟩ := ho.slice
  obtain ⟨ar, cr, rfl, hlr⟩ := hr.slice
  have hM0 := (Mem.start w).alloc #[.slice ao g.objs.length co, .slice ar g.roots.length cr] 25
  obtain ⟨L, hL⟩ : ∃ L, ds.length = L := ⟨_, rfl⟩
  obtain ⟨nT, hnT⟩ : ∃ n, (runs pstep (startP g) ds).1.x.row.length = n := ⟨_, rfl⟩
  obtain ⟨nm, hnm⟩ : ∃ n, (runs pstep (startP g) ds).1.x.made.length = n := ⟨_, rfl⟩
  obtain ⟨nl, hnl⟩ : ∃ n, (runs pstep (startP g) ds).1.x.log.length = n := ⟨_, rfl⟩
  obtain ⟨tm, htm⟩ : ∃ n, (runs pstep (startP g) ds).1.x.times = n := ⟨_, rfl⟩
  have hi := runsP_inv hG ds.length ds (Nat.le_refl _) hn
  rw [List.take_length] at hi
  have hnT2 : nT ≤ 200 := by have := hi.1.rowLe; omega
  have hnl2 : nl ≤ 200 := by have := hi.2.2.1; omega
  have hends := rep_ends hG ds nT nl hn hnT hnl
  have HP := Lib.hid (pPlay5 g hG (.agg #[.slice ao g.objs.length co, .slice ar g.roots.length cr]) (.slice au L cu) ds w Hg.out hd hn L nT nm nl tm hL hnT hnm hnl htm)
  unfold PPlay5 at HP
  have HM0 := Lib.hid hM0
  have HL := Lib.hid hL
  have HG := Lib.hid hG
  have HD := Lib.hid hd
  rw [hL] at hu hn
  have Hu := Lib.hid hu
  have Hends := Lib.hid hends
  have Htm := Lib.hid htm
  rw [hL]
  clear hM0 ho hr hi hL hG hd hu hnT hnm hnl htm hends
  go_enter Try.func11, Try.ntmps11
  go_wp2_with fail
  refine HP.out _ _ _ HM0.out (Hu.out.later HM0.out.below) ?_
  intro aO cO aT cT w1 hM1 _
  have hM1 := hM1.alloc #[.slice aO L cO, .slice aT nT cT, .int .i64 (nm : Int), .int .i64 (nl : Int), .int .i64 tm] 60
  obtain ⟨W1, hW1⟩ : ∃ W1, w1.alloc (.cells #[.slice aO L cO, .slice aT nT cT, .int .i64 (nm : Int), .int .i64 (nl : Int), .int .i64 tm] 60) = W1 := ⟨_, rfl⟩
  rw [hW1] at hM1
  obtain ⟨b5, hb5⟩ : ∃ b5, w1.heap.size = b5 := ⟨_, rfl⟩
  rw [hb5] at hM1
  have g0 := hM1.cell 3 rfl 0
  have g1 := hM1.cell 3 rfl 1
  have gb := (hM1.box 3 rfl).2.1
  have c0 := hM1.cell 0 rfl 0
  have c1 := hM1.cell 0 rfl 1
  have c3 := hM1.cell 0 rfl 3
  have cb := (hM1.box 0 rfl).2.1
  have HM1 := Lib.hid hM1
  have HW1 := Lib.hid hW1
  have Hb5 := Lib.hid hb5
  have HBl := Lib.hid hM1.below
  have e0 : ((L : Int) != (L : Int)) = false := by simp
  clear hM1 hW1 hb5 HP HM0
  go_upto_region 2 with (fail)
  rw [HW1.out, Hb5.out]
  obtain ⟨m1, hm1⟩ : ∃ m1 : Nat, L + nl = m1 := ⟨_, rfl⟩
  obtain ⟨m2, hm2⟩ : ∃ m2 : Nat, nT + 8 = m2 := ⟨_, rfl⟩
  obtain ⟨m3, hm3⟩ : ∃ m3 : Nat, m2 + 1 = m3 := ⟨_, rfl⟩
  obtain ⟨m4, hm4⟩ : ∃ m4 : Nat, 2 * m3 = m4 := ⟨_, rfl⟩
  obtain ⟨N, hN⟩ : ∃ N : Nat, m1 + m4 = N := ⟨_, rfl⟩
  have w1' : IntKind.i64.wrap ((L : Int) + (nl : Int)) = (m1 : Int) := by rw [IntKind.wrap_i64]; omega
  have w2' : IntKind.i64.wrap ((nT : Int) + 8) = (m2 : Int) := by rw [IntKind.wrap_i64]; omega
  have w3' : IntKind.i64.wrap ((m2 : Int) + 1) = (m3 : Int) := by rw [IntKind.wrap_i64]; omega
  have w4' : IntKind.i64.wrap (2 * (m3 : Int)) = (m4 : Int) := by rw [IntKind.wrap_i64]; omega
  have w5' : IntKind.i64.wrap ((m1 : Int) + (m4 : Int)) = (N : Int) := by rw [IntKind.wrap_i64]; omega
  have q0 : ¬ (nl : Int) < 0 := by omega
  by_cases h24 : 24 < nT
  · have q1 : (24 : Int) < (nT : Int) := by omega
    go_wp2
    go_ret
    exact ⟨rfl, HBl.out⟩
  · have q1 : ¬ (24 : Int) < (nT : Int) := by omega
    by_cases h2 : 100 < nl
    · have q2 : (100 : Int) < (nl : Int) := by omega
      go_wp2
      go_ret
      exact ⟨rfl, HBl.out⟩
    · have q2 : ¬ (100 : Int) < (nl : Int) := by omega
      by_cases h3 : 100 < N
      · have q3 : (100 : Int) < (N : Int) := by omega
        go_wp2
        go_ret
        exact ⟨rfl, HBl.out⟩
      · have q3 : ¬ (100 : Int) < (N : Int) := by omega
        obtain ⟨a1, ha1⟩ : ∃ a1 : Nat, nl + nT = a1 := ⟨_, rfl⟩
        obtain ⟨a2, ha2⟩ : ∃ a2 : Nat, a1 + 8 = a2 := ⟨_, rfl⟩
        obtain ⟨k1, hk1⟩ : ∃ k1 : Nat, a2 + 1 = k1 := ⟨_, rfl⟩
        have y1' : IntKind.i64.wrap ((nl : Int) + (nT : Int)) = (a1 : Int) := by rw [IntKind.wrap_i64]; omega
        have y2' : IntKind.i64.wrap ((a1 : Int) + 8) = (a2 : Int) := by rw [IntKind.wrap_i64]; omega
        have y3' : IntKind.i64.wrap ((a2 : Int) + 1) = (k1 : Int) := by rw [IntKind.wrap_i64]; omega
        have hk1e : nl + nT + 9 = k1 := by omega
        have hm3e : nT + 9 = m3 := by omega
        have hends := Hends.out
        rw [hk1e, hm3e] at hends
        have Hwk := Lib.hid (worksK_any k1 (by omega) W1)
        go_upto_region 8 with (fail)
        clear c0 c1 c3 cb
        go_wp2_with fail
        refine Hwk.out.mono ?_
        rintro e w2 ⟨vD, rfl, hMw⟩
        have hM2 := HM1.out.callMem hMw
        have hT2 := isTup_own4 (enc := cellsD) (fun _ => rfl) (hM2.row 0 rfl) (by simp; omega)
        have Hbe := Lib.hid (behind_any (.slice au L cu) vD ds _ w2 (Hu.out.later hM2.below) hT2 (by simp; rw [HL.out]; omega))
        have HM2 := Lib.hid hM2
        clear hM2 hMw hT2 Hwk
        go_wp2_with fail
        refine Hbe.out.mono ?_
        rintro e w3 ⟨x3, rfl, hM3⟩
        have hT3 := isTup_own4 (enc := cellsD) (fun _ => rfl) (hM3.row 0 rfl) (by simp; rw [HL.out]; omega)
        obtain ⟨once, honce⟩ : ∃ once, ds ++ List.replicate k1 dWk = once := ⟨_, rfl⟩
        have hol : once.length = L + k1 := by rw [← honce, List.length_append, List.length_replicate, HL.out]
        rw [honce] at hM3 hT3 hends
        obtain ⟨a3, c3, rfl, _⟩ := hT3.slice
        obtain ⟨n1, hn1⟩ : ∃ n1, L + k1 = n1 := ⟨_, rfl⟩
        rw [hn1] at hol
        rw [hol] at hT3 hM3 ⊢
        have hdo : ∀ d ∈ once, DdOk d := by
          intro d hd
          rw [← honce] at hd
          rcases List.mem_append.1 hd with h | h
          · exact HD.out d h
          · rw [List.eq_of_mem_replicate h]; constructor <;> exact ⟨by decide, by decide⟩
        have hM4 := HM2.out.callMem hM3
        have g0' := hM4.cell 5 rfl 0
        have g1' := hM4.cell 5 rfl 1
        have gb' := (hM4.box 5 rfl).2.1
        obtain ⟨nT1, hnT1⟩ : ∃ n, (runs pstep (startP g) once).1.x.row.length = n := ⟨_, rfl⟩
        obtain ⟨nm1, hnm1⟩ : ∃ n, (runs pstep (startP g) once).1.x.made.length = n := ⟨_, rfl⟩
        obtain ⟨nl1, hnl1⟩ : ∃ n, (runs pstep (startP g) once).1.x.log.length = n := ⟨_, rfl⟩
        obtain ⟨tm1, htm1⟩ : ∃ n, (runs pstep (startP g) once).1.x.times = n := ⟨_, rfl⟩
        have HP1 := Lib.hid (pPlay5 g HG.out (.agg #[.slice ao g.objs.length co, .slice ar g.roots.length cr]) (.slice a3 n1 c3) once w Hg.out hdo (by omega) n1 nT1 nm1 nl1 tm1 hol hnT1 hnm1 hnl1 htm1)
        unfold PPlay5 at HP1
        rw [Htm.out, htm1] at hends
        have Hends1 := Lib.hid hends
        have HT3 := Lib.hid hT3
        have HM4 := Lib.hid hM4
        have Hol := Lib.hid hol
        have Hdo := Lib.hid hdo
        clear hends hT3 hM4 hol hdo hnT1 hnm1 hnl1 htm1 hM3 HM2 Hbe Hends
        go_wp2_with fail
        refine HP1.out _ _ _ HM4.out HT3.out ?_
        intro aO1 cO1 aT1 cT1 w4 hM5 hb4
        have hM5 := hM5.alloc #[.slice aO1 n1 cO1, .slice aT1 nT1 cT1, .int .i64 (nm1 : Int), .int .i64 (nl1 : Int), .int .i64 tm1] 60
        obtain ⟨W5, hW5⟩ : ∃ W5, w4.alloc (.cells #[.slice aO1 n1 cO1, .slice aT1 nT1 cT1, .int .i64 (nm1 : Int), .int .i64 (nl1 : Int), .int .i64 tm1] 60) = W5 := ⟨_, rfl⟩
        have hb5 : Below w3.heap.size w3 W5 := by rw [← hW5]; exact hb4.alloc (hb4.size) _
        rw [hW5] at hM5
        obtain ⟨b10, hb10⟩ : ∃ b10, w4.heap.size = b10 := ⟨_, rfl⟩
        rw [hb10] at hM5
        have HM5 := Lib.hid hM5
        have HW5 := Lib.hid hW5
        have Hb10 := Lib.hid hb10
        have HB5 := Lib.hid hb5
        have Hwk2 := Lib.hid (worksK_any m3 (by omega) W5)
        clear hM5 hW5 hb10 hb5 hb4 HP1 HM4 g0' g1' gb'
        go_upto_region 10 with (fail)
        rw [HW5.out, Hb10.out]
        go_wp2_with fail
        refine Hwk2.out.mono ?_
        rintro e w6 ⟨vE, rfl, hMw⟩
        have hM6 := HM5.out.callMem hMw
        have hT6 := isTup_own4 (enc := cellsD) (fun _ => rfl) (hM6.row 0 rfl) (by simp; omega)
        have hbw : Below w3.heap.size w3 w6 := HB5.out.trans (hMw.below.mono HB5.out.size)
        have Hbe2 := Lib.hid (behind_any (.slice a3 n1 c3) vE once _ w6 (HT3.out.later hbw) hT6 (by simp; rw [Hol.out]; omega))
        have HM6 := Lib.hid hM6
        clear hM6 hMw hT6 Hwk2 hbw
        go_wp2_with fail
        refine Hbe2.out.mono ?_
        rintro e w7 ⟨x7, rfl, hM7⟩
        have hT7 := isTup_own4 (enc := cellsD) (fun _ => rfl) (hM7.row 0 rfl) (by simp; rw [Hol.out]; omega)
        obtain ⟨again, hagain⟩ : ∃ again, once ++ List.replicate m3 dWk = again := ⟨_, rfl⟩
        obtain ⟨n2, hn2⟩ : ∃ n2, n1 + m3 = n2 := ⟨_, rfl⟩
        have hol2 : again.length = n2 := by rw [← hagain, List.length_append, List.length_replicate, Hol.out, hn2]
        have hends1 := Hends1.out
        rw [hagain] at hM7 hT7 hends1
        obtain ⟨a7, c7, rfl, _⟩ := hT7.slice
        rw [hol2] at hT7 hM7 ⊢
        have hdo2 : ∀ d ∈ again, DdOk d := by
          intro d hd
          rw [← hagain] at hd
          rcases List.mem_append.1 hd with h | h
          · exact Hdo.out d h
          · rw [List.eq_of_mem_replicate h]; constructor <;> exact ⟨by decide, by decide⟩
        have hM8 := HM6.out.callMem hM7
        have g0' := hM8.cell 10 rfl 0
        have g1' := hM8.cell 10 rfl 1
        have gb' := (hM8.box 10 rfl).2.1
        obtain ⟨nT2, hnT2'⟩ : ∃ n, (runs pstep (startP g) again).1.x.row.length = n := ⟨_, rfl⟩
        obtain ⟨nm2, hnm2⟩ : ∃ n, (runs pstep (startP g) again).1.x.made.length = n := ⟨_, rfl⟩
        obtain ⟨nl2, hnl2'⟩ : ∃ n, (runs pstep (startP g) again).1.x.log.length = n := ⟨_, rfl⟩
        obtain ⟨tm2, htm2⟩ : ∃ n, (runs pstep (startP g) again).1.x.times = n := ⟨_, rfl⟩
        have HP2 := Lib.hid (pPlay5 g HG.out (.agg #[.slice ao g.objs.length co, .slice ar g.roots.length cr]) (.slice a7 n2 c7) again w Hg.out hdo2 (by omega) n2 nT2 nm2 nl2 tm2 hol2 hnT2' hnm2 hnl2' htm2)
        unfold PPlay5 at HP2
        obtain ⟨t, ht1, ht2, ht3⟩ := rep_told HG.out (ds := again) (by omega)
        have hi2 := (runsP_inv HG.out again.length again (Nat.le_refl _) (by omega)).1
        rw [List.take_length] at hi2
        have hcl : ∀ c, CanonS (gOf t.regs t.os) c → c.objs.length = nT2 := by
          intro c hc
          rw [canon_eq ht2 ht3 hc hends1.2.2, ← hnT2', hi2.rowPerm.length_eq]
          rfl
        rw [htm2] at hends1
        have r1 : tm < tm1 := hends1.1
        have r2 : tm1 < tm2 := hends1.2.1
        have hO2l : (runs pstep (startP g) again).2.length = n2 := by rw [runs_len]; exact hol2
        obtain ⟨O2, hO2⟩ : ∃ O2, (runs pstep (startP g) again).2 = O2 := ⟨_, rfl⟩
        rw [hO2] at ht1 hO2l HP2
        have HT7 := Lib.hid hT7
        have HM8 := Lib.hid hM8
        have HT := Lib.hid ht1
        have Hcl := Lib.hid hcl
        have HO2l := Lib.hid hO2l
        have Hol2 := Lib.hid hol2
        have Hdo2 := Lib.hid hdo2
        clear hT7 hM8 hM7 ht1 ht2 ht3 hi2 hcl hends1 Hends1 hO2l hol2 hdo2 hnT2' hnm2 hnl2' htm2 hO2 HM6 Hbe2
        go_wp2_with fail
        refine HP2.out _ _ _ HM8.out HT7.out ?_
        intro aO2 cO2 aT2 cT2 w9 hM9 hb9
        have hM9 := hM9.alloc #[.slice aO2 n2 cO2, .slice aT2 nT2 cT2, .int .i64 (nm2 : Int), .int .i64 (nl2 : Int), .int .i64 tm2] 60
        obtain ⟨W9, hW9⟩ : ∃ W9, w9.alloc (.cells #[.slice aO2 n2 cO2, .slice aT2 nT2 cT2, .int .i64 (nm2 : Int), .int .i64 (nl2 : Int), .int .i64 tm2] 60) = W9 := ⟨_, rfl⟩
        have hb9' : Below w7.heap.size w7 W9 := by rw [← hW9]; exact hb9.alloc (hb9.size) _
        rw [hW9] at hM9
        obtain ⟨b12, hb12⟩ : ∃ b12, w9.heap.size = b12 := ⟨_, rfl⟩
        rw [hb12] at hM9
        have hO := hM9.isTup 1 rfl (fun _ => rfl) (by rw [HO2l.out]; omega)
        have hM9b := hM9.alloc #[.int .i64 8] 3
        have hTo := told_any g HG.out (.agg #[.slice ao g.objs.length co, .slice ar g.roots.length cr]) (.slice a7 n2 c7) (.slice aO2 n2 cO2) (.slice (some ⟨W9.heap.size, 0, none⟩) 1 1) again O2 [8] _ (Hg.out.later hM9b.below) (HT7.out.later (hb9'.alloc hb9'.size _)) (hO.later ((Below.refl _ _).alloc (Nat.le_refl _) _)) (ints1_new hM9 ⟨by omega, by omega⟩ 3) Hdo2.out (by rw [Hol2.out]; omega) (by rw [HO2l.out, Hol2.out]) (by rw [HT.out])
        have z0 := hM9.cell 13 rfl 0
        have z1 := hM9.cell 13 rfl 1
        have zb := (hM9.box 13 rfl).2.1
        have x0 := hM9.cell 0 rfl 0
        have xb := (hM9.box 0 rfl).2.1
        have HM9b := Lib.hid hM9b
        have HTo := Lib.hid hTo
        have HW9 := Lib.hid hW9
        have Hb12 := Lib.hid hb12
        clear hM9 hM9b hTo hW9 hb12 hb9 hb9' hO HP2 HM8 g0' g1' gb'
        go_upto_region 12 with (fail)
        rw [HW9.out, Hb12.out]
        go_wp2_with fail
        refine HTo.out.mono ?_
        rintro e w10 ⟨v', c, rfl, hca, hgc, hb10⟩
        rw [HT.out] at hca
        have hcn := Hcl.out c hca
        obtain ⟨vo3, vr3, rfl, ho3, hr3⟩ := hgc
        obtain ⟨ao3, co3, rfl, _⟩ := ho3.slice
        obtain ⟨ar3, cr3, rfl, _⟩ := hr3.slice
        rw [hcn]
        have hM10 := ((HM9b.out.call hb10).drop (List.sublist_cons_self _ _)).alloc #[.slice ao3 nT2 co3, .slice ar3 c.roots.length cr3] 25
        obtain ⟨W10, hW10⟩ : ∃ W10, w10.alloc (.cells #[.slice ao3 nT2 co3, .slice ar3 c.roots.length cr3] 25) = W10 := ⟨_, rfl⟩
        rw [hW10] at hM10
        obtain ⟨b14, hb14⟩ : ∃ b14, w10.heap.size = b14 := ⟨_, rfl⟩
        rw [hb14] at hM10
        have p0 := hM10.cell 0 rfl 0
        have pb := (hM10.box 0 rfl).2.1
        have p1 := hM10.cell 1 rfl 1
        have p4 := hM10.cell 1 rfl 4
        have pb1 := (hM10.box 1 rfl).2.1
        have s4 := hM10.cell 6 rfl 4
        have sb := (hM10.box 6 rfl).2.1
        have u4 := hM10.cell 11 rfl 4
        have ub := (hM10.box 11 rfl).2.1
        have r1' : decide (tm < tm1) = true := by simpa using r1
        have r2' : decide (tm1 < tm2) = true := by simpa using r2
        have r3 : ((nT2 : Int) == (nT2 : Int)) = true := by simp
        have HB10 := Lib.hid hM10.below
        have HW10 := Lib.hid hW10
        have Hb14 := Lib.hid hb14
        clear hM10 hW10 hb14 hca hb10 ho3 hr3 hcn HTo HM9b z0 z1 zb x0 xb
        go_upto_region 15 with (fail)
        rw [HW10.out, Hb14.out]
        go_wp2
        go_ret
        exact ⟨rfl, HB10.out⟩
set_option maxRecDepth 100000 in
set_option maxHeartbeats 2000000 in
theorem replicaEnds_bad (g : G) (v : Value) (u : Value) (ds : List Dd) (hk : ¬ (Good g ∧ ds.length ≤ 100)) (w : World) (hg : IsGraph w v g) (hu : IsTup 5 cellsD w u ds) :
    Calls Try.prog 11 #[v, u] w fun e w' => e = .returned (.bool true) ∧ Below w.heap.size w w' := by
  have Hg := Lib.hid hg
  obtain ⟨au, cu, rfl, _⟩ := hu.slice
  obtain ⟨vo, vr, rfl, ho, hr⟩ := hg
  obtain ⟨ao, co, rfl, hlo⟩ := ho.slice
  obtain ⟨ar, cr, rfl, hlr⟩ := hr.slice
  have hM0 := (Mem.start w).alloc #[.slice ao g.objs.length co, .slice ar g.roots.length cr] 25
  have HP1 := Lib.hid (pplay_no g _ _ ds _ (Hg.out.later hM0.below) (hu.later hM0.below) hk)
  have HM0 := Lib.hid hM0
  clear hu hM0 ho hr hk
  go_enter Try.func11, Try.ntmps11
  go_wp2_with fail
  refine HP1.out.mono ?_
  rintro e w1 ⟨c, hc, rfl, hb1⟩
  rw [show NilR = .agg #[.slice none 0 0, .slice none 0 0, .int .i64 0, .int .i64 0, .int .i64 0] from rfl]
  have hM1 := (HM0.out.call hb1).alloc #[.slice none 0 0, .slice none 0 0, .int .i64 0, .int .i64 0, .int .i64 0] 60
  have HB := Lib.hid hM1.below
  have hcn : (c != 0) = true := by rw [bne, hc]; rfl
  clear hM1 hb1
  go_wp2
  go_ret
  exact ⟨rfl, HB.out⟩
theorem replicaEnds_walk (W : World) (v0 v1 : Value) (g0 : ∃ g, IsGraph W v0 g) (g1 : ∃ ds, IsTup 5 cellsD W v1 ds ∧ ∀ d ∈ ds, DdOk d) :
    Calls Try.prog 11 #[v0, v1] W fun e w' => e = .returned (.bool true) ∧ Below W.heap.size W w' := by
  obtain ⟨g, hg⟩ := g0
  obtain ⟨ds, hu, hd⟩ := g1
  by_cases hk : Good g ∧ ds.length ≤ 100
  · obtain ⟨a, c, rfl, _⟩ := hu.slice
    exact replicaEnds_good g hk.1 v0 a c ds W hg hu hd hk.2
  · exact replicaEnds_bad g v0 v1 ds hk W hg hu
end Go.Proofs.Ytmmcjjklmcfegaa
