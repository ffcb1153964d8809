/- move.Copy, walked. -/
import Derived.Test.YtigdpdndnghldaaBq
import Derived.Test.YtigdpdndnghldaaAh
namespace Go.Proofs.Ytigdpdndnghldaa
open Go.RowKit Go.Shelf

theorem ord_zero (os : List Ob) (rs : List Int) : nxts os [] rs = ordAt (readG os rs) 0 := nxts_tks os rs []
theorem ord_succ {os : List Ob} {rs F : List Int} (hF : OrdS (readG os rs) F) (hrng : ∀ x ∈ F, 0 ≤ x ∧ x < (os.length : Int)) {k : Nat} {x : Int} (hx : F[k]? = some x) :
    nxts os (ordAt (readG os rs) k) (obj os x).2 = ordAt (readG os rs) (k + 1) := by
  have hk := (List.getElem?_eq_some_iff.1 hx).1
  rw [nxts_tks]
  show _ = tks _ (targets (fieldsAt _ ((ordAt (readG os rs) k).getD k 0)))
  rw [hF.at_ hk, List.getD_eq_getElem?_getD, hx, Option.getD_some, read_field (hrng x (List.mem_of_getElem? hx))]
theorem hdC_ok {os : List Ob} {ws : List Int} (hL : Laid ws os) {i : Int} (hi : 0 ≤ i ∧ i < (os.length : Int)) : hdC os i % 256 = (obj os i).2.length ∧ isHead (hdC os i) ∧ w64 (hdC os i) ∧ (obj os i).2.length ≤ 4 := by
  have hg := hL.good (obj_get hi)
  obtain ⟨h1, h2, h3⟩ := headB (obj os i).2.length (min ((obj os i).1 / 512 % 8 + 1) 7) hg.2.2 (by omega) (by omega)
  exact ⟨h1, h2, h3, hg.2.2⟩

set_option maxRecDepth 100000 in
set_option maxHeartbeats 4000000 in
theorem copy_any (vw vr : Value) (ws rs : List Int) (os : List Ob) (F : List Int) (w : World) (hw : IsW w vw ws) (hr : IsW w vr rs) (hS : Sound ws rs os) (hF : OrdS (readG os rs) F) :
    Calls Try.prog 34 #[.agg #[vw, vr]] w fun e w' => ∃ tv r, e = .returned (.tuple #[.agg #[tv, r], .int .i64 0]) ∧
      Mem w.heap.size w w' [rowW 55 tv (flat (relO os F (hdC os))), rowW 55 r (rs.map (mvW os F))] := by
  have hK := ord_keeps hS hF
  have hrng := hK.rng
  have hpl : ∀ j, placeF os F j ≤ 256 := fun j => by
    have h1 := placeF_le hK.nodup hrng j
    rw [← hS.laid.1] at h1
    have := hS.words; omega
  have Hw := Lib.hid hw
  have Hr := Lib.hid hr
  obtain ⟨aw, cw, rfl, hmw⟩ := hw.slice
  obtain ⟨ar, cr, rfl, hmr⟩ := hr.slice
  have hM0 := (((Mem.start w).alloc #[.slice aw ws.length cw, .slice ar rs.length cr] 24).allocAt (w.heap.size + 1) (by simp) #[.slice none 0 0, .slice none 0 0] 24)
  have HC := Lib.hid (acheck_any _ _ ws rs _ (hw.later hM0.below) (hr.later hM0.below))
  have HM0 := Lib.hid hM0
  have HS := Lib.hid hS
  have HF := Lib.hid hF
  have HK := Lib.hid hK
  have Hrng := Lib.hid hrng
  have Hpl := Lib.hid hpl
  have hws := hS.words
  have hrs := hS.roots
  clear hw hr hM0 hS hF hK hrng hpl
  go_enter Try.func34, Try.ntmps34
  go_wp2_with fail
  refine HC.out.mono ?_
  rintro e w2 ⟨c, rfl, hb, hcase⟩
  rcases hcase with ⟨rfl, _⟩ | ⟨_, hno⟩
  · have hM2 := HM0.out.call hb
    have c0 : w2.cell? ⟨w.heap.size, 0, none⟩ = some (.slice aw ws.length cw) := by have := hM2.cell 1 rfl 0; simpa using this
    have c1 : w2.cell? ⟨w.heap.size, 1, none⟩ = some (.slice ar rs.length cr) := by have := hM2.cell 1 rfl 1; simpa using this
    have z0 : w.heap.size < w2.heap.size := (hM2.box 1 rfl).2.1
    obtain ⟨bm, hbm⟩ : ∃ bm, w2.heap.size = bm := ⟨_, rfl⟩
    have hM3 := ((hM2.newMapAt mapII bm hbm).allocAt (bm + 1) (by simp [hbm]) #[.slice aw ws.length cw, .slice none 0 0, .map (some bm)] 99).nilW 55
    obtain ⟨W4, hW4⟩ : ∃ W4, (w2.alloc (.map #[] 0)).alloc (.cells #[.slice aw ws.length cw, .slice none 0 0, .map (some bm)] 99) = W4 := ⟨_, rfl⟩
    rw [hW4] at hM3
    have hM4 : Mem w.heap.size w W4 (ownM (bm + 1) bm (.slice aw ws.length cw) (.slice none 0 0) os F [] 0 ++ [ebox (w.heap.size + 1) #[.slice none 0 0, .slice none 0 0] 24, ebox w.heap.size #[.slice aw ws.length cw, .slice ar rs.length cr] 24]) := by
      have := hM3.pick0 [1, 0, 2, 3, 4] (A' := [ebox (bm + 1) #[.slice aw ws.length cw, .slice none 0 0, .map (some bm)] 99, rowW 55 (.slice none 0 0) [], gmap mapII bm 0 (fun _ => none), ebox (w.heap.size + 1) #[.slice none 0 0, .slice none 0 0] 24, ebox w.heap.size #[.slice aw ws.length cw, .slice ar rs.length cr] 24]) (by decide) rfl
      refine this.cast ?_
      unfold ownM
      rw [nowF_nil, toW_nil]; rfl
    have HA := Lib.hid (mall_any w W4 (bm + 1) bm (.slice aw ws.length cw) (.slice none 0 0) (.slice ar rs.length cr) ws os F [] rs _ Hw.out HS.out.laid HS.out.words HK.out.nodup Hrng.out Hr.out (by omega) (fun x hx => HS.out.refs x (List.mem_append_left _ hx)) (by rw [ord_zero]; exact HF.out.pre (Nat.zero_le _)) hM4)
    have d1 : W4.cell? ⟨w.heap.size, 1, none⟩ = some (.slice ar rs.length cr) := by have := hM4.cell 4 rfl 1; simpa using this
    have y1 : w.heap.size < W4.heap.size := (hM4.box 4 rfl).2.1
    have HW4 := Lib.hid hW4
    have Hbm := Lib.hid hbm
    have hmm := @run_makeMap Try.prog
    clear hb hM2 HM0 HC hM3 hM4 hW4 hbm
    go_wp2_with fail
    rw [Hbm.out, HW4.out]
    refine HA.out.mono ?_
    rintro e w5 ⟨r, tv, rfl, hM5⟩
    rw [ord_zero] at hM5
    obtain ⟨gg, hgg⟩ : ∃ gg, readG os rs = gg := ⟨_, rfl⟩
    obtain ⟨n, hn⟩ : ∃ n, F.length = n := ⟨_, rfl⟩
    have Hgg := Lib.hid hgg
    have Hn := Lib.hid hn
    rw [hgg] at hM5
    obtain ⟨rr, hrr⟩ : ∃ rr, rowW 55 r (rs.map (mvW os F)) :: [ebox (w.heap.size + 1) #[.slice none 0 0, .slice none 0 0] 24, ebox w.heap.size #[.slice aw ws.length cw, .slice ar rs.length cr] 24] = rr := ⟨_, rfl⟩
    have Hrr := Lib.hid hrr
    rw [hrr] at hM5
    have HM5 := Lib.hid hM5
    clear HA d1 y1 c0 c1 z0 hM5 hgg hn hrr hmm
    go_wp2
    go_loopw [7] (fun a7 wr => ∃ (k : Nat) (tv' : Value), k ≤ n ∧ a7 = .int .i64 (placeF os F k : Nat) ∧ Mem w.heap.size w wr (ownM (bm + 1) bm (.slice aw ws.length cw) tv' os F (ordAt gg k) (placeF os F k) ++ rr)) (fun i _ => placeF os F n - (intOf i).toNat)
    case atStart => exact ⟨0, tv, Nat.zero_le _, rfl, HM5.out⟩
    case round =>
      clear HM5
      obtain ⟨k, tv', hk, rfl, hM⟩ := hrel
      by_cases hlt : k < n
      · obtain ⟨x, hx⟩ := get_some F k (by rw [Hn.out]; exact hlt)
        have hP := HF.out.pre (show k ≤ F.length by rw [Hn.out]; exact hk)
        have hkP := HF.out.2 k (by rw [Hn.out]; exact hlt)
        have hos := ord_succ HF.out Hrng.out hx
        rw [Hgg.out] at hP hkP hos
        have hPx : (ordAt gg k)[k]? = some x := by rw [← prefix_get hP hkP]; exact hx
        obtain ⟨hh1, hh2, hh3, hh4⟩ := hdC_ok HS.out.laid (Hrng.out x (List.mem_of_getElem? hx))
        obtain ⟨th1, th2⟩ := toW_head (os := os) (hd := hdC os) hP hPx
        have hsucc := placeF_succ os hx
        have hpn := placeF_mono os F (show k + 1 ≤ n by omega)
        have hpP := placeF_mono os F (show k + 1 ≤ (ordAt gg k).length by omega)
        have hp256 := Hpl.out (ordAt gg k).length
        have htl := toW_len (os := os) (F := F) (hd := hdC os) hP (s := placeF os F k) (by unfold szO at hsucc; omega)
        have hM0 := hM
        unfold ownM at hM
        obtain ⟨g1, cp1, rfl, hg1, d1, _⟩ := hM.wordsAt 1 rfl th1
        rw [htl] at hM hM0
        have c1 : wr.cell? ⟨bm + 1, 1, none⟩ = some (.slice (some ⟨g1, 0, none⟩) (placeF os F (ordAt gg k).length) cp1) := by have := hM.cell 0 rfl 1; simpa using this
        have z1 : bm + 1 < wr.heap.size := (hM.box 0 rfl).2.1
        have hU := unhead_yes (hdC os x) wr hh3.1 hh3.2 hh2
        rw [hh1] at hU
        unfold szO at hsucc
        obtain ⟨h, hhe⟩ : ∃ h, hdC os x = h := ⟨_, rfl⟩
        rw [hhe] at hU d1
        obtain ⟨m, hm⟩ : ∃ m, (obj os x).2.length = m := ⟨_, rfl⟩
        obtain ⟨bk, hbk⟩ : ∃ bk, (h / 256 % 2 == 1) = bk := ⟨_, rfl⟩
        obtain ⟨ag, hag⟩ : ∃ ag, h / 512 % 8 = ag := ⟨_, rfl⟩
        rw [hm] at hU hsucc hh4
        rw [hbk, hag] at hU
        obtain ⟨q, hq⟩ : ∃ q, placeF os F k = q := ⟨_, rfl⟩
        obtain ⟨p, hp⟩ : ∃ p, placeF os F (ordAt gg k).length = p := ⟨_, rfl⟩
        have hMq : Mem w.heap.size w wr (ownM (bm + 1) bm (.slice aw ws.length cw) (.slice (some ⟨g1, 0, none⟩) p cp1) os F (ordAt gg k) (q + 1) ++ rr) := by
          rw [← hq, ← hp]
          refine hM0.cast ?_
          unfold ownM; rw [th2]
        rw [hq] at d1 hsucc ⊢
        rw [hp] at c1 hpP hp256
        have hqp : q < p := by omega
        have hqp2 : (q : Int) < p := by omega
        have HU := Lib.hid hU
        have HMq := Lib.hid hMq
        have HP := Lib.hid hP
        have HPx := Lib.hid hPx
        have Hos := Lib.hid hos
        have Hq := Lib.hid hq
        have Hm := Lib.hid hm
        have Hsucc := Lib.hid hsucc
        have Hpn := Lib.hid hpn
        have Hx := Lib.hid hx
        have hq256 : q + 1 + m ≤ 256 := by have := Hpl.out (k + 1); omega
        clear hM hM0 hMq hU hP hkP hos hPx hh1 hh2 hh3 hhe th1 th2 hsucc hpn hpP hp256 htl hq hp hm hbk hag hx
        go_wp2_with fail
        refine HU.out.mono ?_
        rintro e w6 ⟨rfl, hb6⟩
        have hM6 := (HMq.out.call hb6).alloc #[.int .i64 m, .bool bk, .int .i64 ag] 35
        obtain ⟨bh, hbh⟩ : ∃ bh, w6.heap.size = bh := ⟨_, rfl⟩
        obtain ⟨W7, hW7⟩ : ∃ W7, w6.alloc (.cells #[.int .i64 m, .bool bk, .int .i64 ag] 35) = W7 := ⟨_, rfl⟩
        rw [hbh, hW7] at hM6
        have hM7 := hM6.perm (List.perm_middle (l₁ := ownM (bm + 1) bm (.slice aw ws.length cw) (.slice (some ⟨g1, 0, none⟩) p cp1) os F (ordAt gg k) (q + 1)) (l₂ := rr))
        have HM7 := Lib.hid hM7
        have HW7 := Lib.hid hW7
        have Hbh := Lib.hid hbh
        clear hb6 hM6 hM7 hW7 hbh HU HMq c1 z1 d1 hg1
        go_wp2
        rw [Hbh.out, HW7.out]
        go_loopw [10] (fun i w8 => ∃ (j : Nat) (tv2 : Value), j ≤ m ∧ i = .int .i64 ((q + 1 + j : Nat) : Int) ∧ Mem w.heap.size w w8 (ownM (bm + 1) bm (.slice aw ws.length cw) tv2 os F (nxts os (ordAt gg k) ((obj os x).2.take j)) (q + 1 + j) ++ (ebox bh #[.int .i64 m, .bool bk, .int .i64 ag] 35 :: rr))) (fun i _ => q + 1 + m - (intOf i).toNat)
        case atStart => exact ⟨0, _, Nat.zero_le _, rfl, HM7.out⟩
        case round =>
          clear HM7
          obtain ⟨j, tv2, hj, rfl, hM⟩ := hrel
          have e0 : wr.cell? ⟨bh, 0, none⟩ = some (.int .i64 m) := by have := hM.cell 3 rfl 0; simpa using this
          have y0 : bh < wr.heap.size := (hM.box 3 rfl).2.1
          by_cases hjm : j < m
          · obtain ⟨y, hy⟩ := get_some (obj os x).2 j (by rw [Hm.out]; exact hjm)
            obtain ⟨Pj, hPj⟩ : ∃ Pj, nxts os (ordAt gg k) ((obj os x).2.take j) = Pj := ⟨_, rfl⟩
            have hnx := nxts_succ os (ordAt gg k) hy
            rw [hPj] at hnx
            have hle : nxts os (ordAt gg k) (obj os x).2 <+: F := by
              rw [Hos.out, ← Hgg.out]
              exact HF.out.pre (by have := (List.getElem?_eq_some_iff.1 Hx.out).1; omega)
            have hPjF : Pj <+: F := by rw [← hPj]; exact (nxts_take os _ _ j).trans hle
            have hPjx : Pj[k]? = some x := by
              rw [← hPj, prefix_get (nxts_prefix os _ _) (List.getElem?_eq_some_iff.1 HPx.out).1]; exact HPx.out
            have hnF : nxt os Pj y <+: F := by rw [← hnx]; exact (nxts_take os _ _ (j + 1)).trans hle
            have hnFx : (nxt os Pj y)[k]? = some x := by
              rw [prefix_get (nxt_prefix os _ _) (List.getElem?_eq_some_iff.1 hPjx).1]; exact hPjx
            obtain ⟨tf1, tf2⟩ := toW_field (os := os) (hd := hdC os) hPjF hPjx hy
            have tf3 := (toW_field (os := os) (hd := hdC os) hnF hnFx hy).2
            have tf4 := (toW_field (os := os) (hd := hdC os) hnF hnFx hy).1
            have tm := toW_moved (os := os) (hd := hdC os) hnF hnFx hy
            have tl := toW_len (os := os) (F := F) (hd := hdC os) hPjF (s := q + 1 + j) (by rw [← Hq.out]; omega)
            have tl2 := toW_len (os := os) (F := F) (hd := hdC os) hnF (s := q + 1 + j) (by rw [← Hq.out]; omega)
            have hp256 := Hpl.out Pj.length
            have hp2562 := Hpl.out (nxt os Pj y).length
            rw [Hq.out] at tf1 tf2 tf3 tf4 tm
            rw [hPj] at hM
            have hys := List.mem_append_right rs (List.mem_flatMap.2 ⟨_, List.mem_of_getElem? (obj_get (Hrng.out x (List.mem_of_getElem? Hx.out))), List.mem_of_getElem? hy⟩)
            have hy64 : w64 y := Hw.out.all y (fieldsOf_mem HS.out.laid y (List.mem_flatMap.2 ⟨_, List.mem_of_getElem? (obj_get (Hrng.out x (List.mem_of_getElem? Hx.out))), List.mem_of_getElem? hy⟩))
            have HC := Lib.hid (move_any w wr (bm + 1) bm (.slice aw ws.length cw) tv2 ws os F Pj (q + 1 + j) _ y Hw.out HS.out.laid hws HK.out.nodup Hrng.out hPjF (by omega) hy64 (ref_step (HS.out.refs y hys) hnF) hM)
            unfold ownM at hM
            obtain ⟨g2, cp2, rfl, hg2, d1, _⟩ := hM.wordsAt 1 rfl tf1
            rw [tl] at hM
            have c1 : wr.cell? ⟨bm + 1, 1, none⟩ = some (.slice (some ⟨g2, 0, none⟩) (placeF os F Pj.length) cp2) := by have := hM.cell 0 rfl 1; simpa using this
            have z1 : bm + 1 < wr.heap.size := (hM.box 0 rfl).2.1
            obtain ⟨v, hv⟩ : ∃ v, mvW os F y = v := ⟨_, rfl⟩
            rw [hv] at tm HC
            have hsz : q + 1 + (j + 1) = q + 1 + j + 1 := by omega
            rw [hsz] at tm
            obtain ⟨z, hz⟩ : ∃ z, q + 1 + j = z := ⟨_, rfl⟩
            rw [hz] at d1 tf2 tf3 tf4 tm tl2 HC ⊢
            obtain ⟨p2, hp2⟩ : ∃ p2, placeF os F Pj.length = p2 := ⟨_, rfl⟩
            obtain ⟨p3, hp3⟩ : ∃ p3, placeF os F (nxt os Pj y).length = p3 := ⟨_, rfl⟩
            rw [hp2] at c1 tf2 hp256
            rw [hp3] at tf3 tl2 hp2562
            have q1 : z < p2 := tf2
            have q2 : (z : Int) < p2 := by omega
            have q3 : z < p3 := tf3
            have q4 : (z : Int) < p3 := by omega
            have q5 : (z : Int) ≤ (q : Int) + m := by omega
            have hz256 : z ≤ 256 := by omega
            have HTf := Lib.hid tf4
            have HTm := Lib.hid tm
            have HTl := Lib.hid tl2
            have Hnx := Lib.hid hnx
            have Hz := Lib.hid hz
            clear hM hy hPj hnx hle hPjF hPjx hnF hnFx tf1 tf2 tf3 tf4 tm tl tl2 hys hy64 hv hz hp2 hp3 hsz
            go_wp2_with fail
            refine HC.out.mono ?_
            rintro e w7 ⟨rfl, tv3, hM7⟩
            have hM8 := hM7
            unfold ownM at hM7
            obtain ⟨g3, cp3, rfl, hg3, d3, f3⟩ := hM7.wordsAt 1 rfl HTf.out
            rw [HTl.out] at hM7
            have c3 : w7.cell? ⟨bm + 1, 1, none⟩ = some (.slice (some ⟨g3, 0, none⟩) p3 cp3) := by have := hM7.cell 0 rfl 1; simpa using this
            have z3 : bm + 1 < w7.heap.size := (hM7.box 0 rfl).2.1
            have hM9 := hM7.setW 1 rfl HTl.out z v
            rw [HTm.out] at hM9
            have HM9 := Lib.hid hM9
            clear hM7 hM8 hM9 HC c1 z1 d1 hg2 e0 y0
            go_wp2
            go_roundw
            case rel => exact ⟨j + 1, _, by omega, by rw [← Hz.out]; go_num, HM9.out.cast (by rw [Hnx.out, show q + 1 + (j + 1) = z + 1 by rw [← Hz.out]; omega]; unfold ownM; rfl)⟩
            case measure => simp [intOf]; omega
          · obtain rfl : j = m := by omega
            rw [show (obj os x).2.take j = (obj os x).2 by rw [← Hm.out, List.take_length], Hos.out] at hM
            obtain ⟨z, hz⟩ : ∃ z, q + 1 + j = z := ⟨_, rfl⟩
            rw [hz] at hM ⊢
            have q1 : ¬ (z : Int) ≤ (q : Int) + j := by omega
            have Hz : Hid (z = placeF os F (k + 1)) := Lib.hid (by rw [Hsucc.out]; omega)
            have HM := Lib.hid (hM.drop (List.Sublist.append_left (List.sublist_cons_self _ rr) _))
            clear hM hz
            go_wp2
            go_roundw
            case rel => exact ⟨k + 1, tv2, by omega, by rw [Hsucc.out]; go_num, by rw [← Hz.out]; exact HM.out⟩
            case measure => have := Hsucc.out; have := Hpn.out; simp [intOf]; omega
      · obtain rfl : k = n := by omega
        have hPF : ordAt gg k = F := by rw [← Hgg.out, ← Hn.out]; exact HF.out.1
        rw [hPF] at hM
        have hall := toW_all os F (hdC os)
        rw [Hn.out] at hall
        unfold ownM at hM
        rw [hall] at hM
        have hlen : (flat (relO os F (hdC os))).length = placeF os F k := by rw [rel_len, Hn.out]
        obtain ⟨a1, cp1, rfl⟩ := own_row (hM.row 1 rfl)
        obtain ⟨ro, c2, rfl⟩ : ∃ a c, r = .slice a rs.length c := by
          rw [← Hrr.out] at hM
          obtain ⟨a, c, h⟩ := own_row (hM.row 3 rfl)
          exact ⟨a, c, by rw [h, List.length_map]⟩
        rw [hlen, ← Hrr.out] at hM
        obtain ⟨p, hp⟩ : ∃ p, placeF os F k = p := ⟨_, rfl⟩
        have hp256 := Hpl.out k
        rw [hp] at hM hp256 ⊢
        have c1 : wr.cell? ⟨bm + 1, 1, none⟩ = some (.slice a1 p cp1) := by have := hM.cell 0 rfl 1; simpa using this
        have z1 : bm + 1 < wr.heap.size := (hM.box 0 rfl).2.1
        have s2 : wr.cell? ⟨w.heap.size + 1, 0, none⟩ = some (.slice none 0 0) := by have := hM.cell 4 rfl 0; simpa using this
        have s3 : wr.cell? ⟨w.heap.size + 1, 1, none⟩ = some (.slice none 0 0) := by have := hM.cell 4 rfl 1; simpa using this
        have s4 : wr.frozen? ⟨w.heap.size + 1, 0, none⟩ = false := hM.free 4 rfl 0
        have s5 : wr.frozen? ⟨w.heap.size + 1, 1, none⟩ = false := hM.free 4 rfl 1
        have s6 : w.heap.size + 1 < wr.heap.size := (hM.box 4 rfl).2.1
        have HM6 := Lib.hid ((hM.setBox 4 rfl 0 (.slice a1 p cp1)).setBox 4 rfl 1 (.slice ro rs.length c2))
        have hpp : ¬ p < p := by omega
        clear hM hall hlen hPF hp
        go_wp2
        obtain ⟨W6, hW6⟩ : ∃ W6, W6 = (wr.setCell ⟨w.heap.size + 1, 0, none⟩ (.slice a1 p cp1)).setCell ⟨w.heap.size + 1, 1, none⟩ (.slice ro rs.length c2) := ⟨_, rfl⟩
        have hM7 := HM6.out
        rw [← hW6] at hM7 ⊢
        have r0 : W6.cell? ⟨w.heap.size + 1, 0, none⟩ = some (.slice a1 p cp1) := by have := hM7.cell 4 rfl 0; simpa using this
        have r1 : W6.cell? ⟨w.heap.size + 1, 1, none⟩ = some (.slice ro rs.length c2) := by have := hM7.cell 4 rfl 1; simpa using this
        refine bodyPost_ret (v := .tuple #[.agg #[.slice a1 p cp1, .slice ro rs.length c2], .int .i64 0]) (by simp [results, Try.results34, go_sem, r0, r1]) rfl ⟨_, _, rfl, ?_⟩
        exact hM7.pick0 [1, 3] (by decide) rfl
  · exact absurd HS.out (hno os)
end Go.Proofs.Ytigdpdndnghldaa
