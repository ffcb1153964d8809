/- arena.Ref and the mover's move, walked. -/
import Derived.Test.YtigdpdndnghldaaBo
import Derived.Test.YtigdpdndnghldaaAs
import Derived.Test.YtigdpdndnghldaaBase2
import Derived.StillTailTactics
import Derived.Deep.RegionLaw
import Derived.Deep.DrawnRows
import Derived.Deep.RegionHeld3
import Derived.Deep.DeepCutAuto
namespace Go.Proofs.Ytigdpdndnghldaa
open Go.RowKit Go.Shelf

theorem headB (l : Nat) (a : Int) (h1 : l ≤ 4) (h2 : 0 ≤ a) (h3 : a ≤ 7) : headW l a false % 256 = l ∧ isHead (headW l a false) ∧ w64 (headW l a false) := by
  have e : headW l a false % 256 = l := by unfold headW; simp; omega
  exact ⟨e, (isHead_iff _).2 ⟨by omega, by unfold headW; simp; omega⟩, by unfold w64 headW; simp; omega⟩
/-- The header of what was moved. -/
def hdC (os : List Ob) (i : Int) : Int := headW (obj os i).2.length (min ((obj os i).1 / 512 % 8 + 1) 7) false
/-- What is taken behind a word. -/
def nxt (os : List Ob) (P : List Int) (x : Int) : List Int := if x % 2 = 1 then P else tk P (idx os (x / 2))
def ownM (bM bm : Nat) (vw tv : Value) (os : List Ob) (F P : List Int) (s : Nat) : List Ent :=
  [ebox bM #[vw, tv, .map (some bm)] 99, rowW 55 tv (toW os F (hdC os) P s), gmap mapII bm P.length (nowF os F P)]

set_option maxRecDepth 100000 in
set_option maxHeartbeats 2000000 in
theorem move_any (w0 w : World) (bM bm : Nat) (vw tv : Value) (ws : List Int) (os : List Ob) (F P : List Int) (s : Nat) (L : List Ent) (x : Int) (hw : IsW w0 vw ws) (hL : Laid ws os) (hsm : ws.length ≤ 256) (hn : F.Nodup) (hrng : ∀ x ∈ F, 0 ≤ x ∧ x < (os.length : Int))
    (hP : P <+: F) (hs : s ≤ placeF os F P.length) (hx64 : w64 x) (hx : x % 2 = 1 ∨ x % 2 = 0 ∧ ∃ i : Nat, i < os.length ∧ x / 2 = place os i ∧ tk P i <+: F) (hM : Mem w0.heap.size w0 w (ownM bM bm vw tv os F P s ++ L)) :
    Calls Try.prog 63 #[.pointer (some ⟨bM, 0, none⟩), .int .u64 x] w fun e w' => e = .returned (.int .u64 (mvW os F x)) ∧ ∃ tv', Mem w0.heap.size w0 w' (ownM bM bm vw tv' os F (nxt os P x) s ++ L) := by
  rcases hx with hodd | ⟨heven, i, hi, hxi, htk⟩
  · have HR := Lib.hid (aref_int x w hx64.1 hx64.2 hodd)
    have HM := Lib.hid hM
    have Hm : Hid (mvW os F x = x ∧ nxt os P x = P) := Lib.hid ⟨if_pos hodd, if_pos hodd⟩
    clear hM hn hrng hP hs hw hL hodd hx64
    go_enter Try.func63, Try.ntmps63
    go_wp2_with fail
    refine HR.out.mono ?_
    rintro e w1 ⟨rfl, rfl⟩
    clear HR
    go_wp2
    go_ret
    exact ⟨by rw [Hm.out.1]; rfl, tv, by rw [Hm.out.2]; exact HM.out⟩
  · obtain ⟨q, hq⟩ : ∃ q, place os i = q := ⟨_, rfl⟩
    obtain ⟨o, ho⟩ := get_some os i hi
    have hft := hL.fit ho
    have hx512 : x < 512 := by omega
    have hqi := hxi
    rw [hq] at hxi hft
    have hR := aref_ref x w hx64.1 hx512 heven
    rw [hxi] at hR
    have HR := Lib.hid hR
    have hidx : idx os (x / 2) = i := by rw [hqi, idx_place hi]
    have hq64 : i64ok (q : Int) := by unfold i64ok; omega
    have hpl : ∀ j, placeF os F j ≤ 256 := fun j => by
      have h1 := placeF_le hn hrng j
      rw [← hL.1] at h1; omega
    obtain ⟨p, hp⟩ : ∃ p, placeF os F P.length = p := ⟨_, rfl⟩
    have hp256 := hpl P.length
    rw [hp] at hp256
    have hM0 := hM
    unfold ownM at hM
    obtain ⟨at_, ct, rfl⟩ := own_row (hM.row 1 rfl)
    have htl := toW_len (os := os) (hd := hdC os) hP hs
    rw [hp] at htl
    rw [htl] at hM hM0
    obtain ⟨aw, cw, rfl, _⟩ := hw.slice
    have e0 : w.cell? ⟨bM, 0, none⟩ = some (.slice aw ws.length cw) := by have := hM.cell 0 rfl 0; simpa using this
    have e1 : w.cell? ⟨bM, 1, none⟩ = some (.slice at_ p ct) := by have := hM.cell 0 rfl 1; simpa using this
    have e2 : w.cell? ⟨bM, 2, none⟩ = some (.map (some bm)) := by have := hM.cell 0 rfl 2; simpa using this
    have ez : bM < w.heap.size := (hM.box 0 rfl).2.1
    have hl := gmap_look (M := mapII) (hM.get 2 rfl) (x := (q : Int)) hq64
    rw [← hq] at hl
    rcases take_step hn htk with ⟨hin, hsame⟩ | ⟨hin, hnew, hpre, hplc⟩
    · rw [nowF_old hi hin, hq] at hl
      obtain ⟨r, hr⟩ : ∃ r, placeF os F (plc F i 0).toNat = r := ⟨_, rfl⟩
      have hr256 := hpl (plc F i 0).toNat
      rw [hr] at hl hr256
      have l1 : (Instr.lookup 97 (.map (some bm)) (.int .i64 q) true).run Try.prog w = .ok (.tuple #[.int .i64 r, .bool true]) w := hl.2
      have l2 : (Instr.lookup 97 (.map (some bm)) (.int .i64 q) false).run Try.prog w = .ok (.int .i64 r) w := hl.1
      have Hm : Hid (mvW os F x = 2 * (r : Int) ∧ nxt os P x = P) := Lib.hid (by
        unfold mvW nxt
        rw [if_neg (by omega), if_neg (by omega), hidx, hr]
        exact ⟨rfl, hsame⟩)
      have HM := Lib.hid hM0
      clear hM hM0 hl hn hrng hP hs hw hL hR hft hqi hidx hpl hp htl hin hsame htk hx64 heven hxi hq ho hr hx512
      go_enter Try.func63, Try.ntmps63
      go_wp2_with fail
      refine HR.out.mono ?_
      rintro e w1 ⟨rfl, rfl⟩
      clear HR
      go_wp2
      go_ret
      exact ⟨by rw [Hm.out.1]; simp; omega, _, by rw [Hm.out.2]; exact HM.out⟩
    · have hg := hL.good ho
      have hhd := hL.head ho
      rw [hq] at hhd
      have hob : obj os (i : Int) = o := by
        have h1 := obj_get (os := os) (i := (i : Int)) ⟨by omega, by omega⟩
        rw [Int.toNat_natCast, ho] at h1
        exact (Option.some.inj h1).symm
      obtain ⟨b, off, cap', hv, hb, hbz, d0, hn64⟩ := hw.at hM.below hhd
      cases hv
      obtain ⟨af, cf, hIF, hfx⟩ := aFields_fix w0 _ ws o.2 q o.2.length o.1 hw hhd hg.1 hg.2.1.symm rfl (fun j x hx => by rw [← hq]; exact hL.field ho hx) (by omega) hsm
      have hU := unhead_yes o.1 w hn64.1 hn64.2 hg.1
      have hm4 := hg.2.2
      rw [← hg.2.1] at hU
      obtain ⟨m, hm⟩ : ∃ m, o.2.length = m := ⟨_, rfl⟩
      have ha := show 0 ≤ o.1 / 512 % 8 ∧ o.1 / 512 % 8 ≤ 7 by omega
      obtain ⟨a, hae⟩ : ∃ a, o.1 / 512 % 8 = a := ⟨_, rfl⟩
      obtain ⟨bk, hbk⟩ : ∃ bk, (o.1 / 256 % 2 == 1) = bk := ⟨_, rfl⟩
      rw [hm] at hU hIF hfx hm4 hft
      rw [hae, hbk] at hU
      rw [hae] at ha
      have hTo : toW os F (hdC os) (P ++ [(i : Int)]) s = (toW os F (hdC os) P s ++ [headW m (min (a + 1) 7) false]) ++ o.2 := by
        rw [toW_snoc hP hs, hob]
        unfold hdC
        rw [hob, hm, hae]
      have hNo := nowF_snoc (F := F) (P := P) hi
      rw [hplc, Int.toNat_natCast, hp, hq] at hNo
      have Hm : Hid (mvW os F x = 2 * (p : Int) ∧ nxt os P x = P ++ [(i : Int)]) := Lib.hid (by
        unfold mvW nxt
        rw [if_neg (by omega), if_neg (by omega), hidx, hplc, Int.toNat_natCast, hp]
        exact ⟨rfl, hnew⟩)
      rw [nowF_new hi hin, hq] at hl
      have l1 : (Instr.lookup 97 (.map (some bm)) (.int .i64 q) true).run Try.prog w = .ok (.tuple #[.int .i64 0, .bool false]) w := hl.2
      have hlP : P.length ≤ 100000 := by
        have h1 := nodup_sub_len P (upTo os.length) (List.Nodup.sublist (hP.sublist) hn) (fun y hy => mem_upTo.2 (hrng y (hP.subset hy)))
        have h2 := hL.count
        rw [upTo_len] at h1; omega
      have HU := Lib.hid hU
      have HM := Lib.hid hM
      have HTo := Lib.hid hTo
      have HNo := Lib.hid hNo
      have HIF := Lib.hid hIF
      have HFx := Lib.hid hfx
      have Hq64 := Lib.hid hq64
      have HlP := Lib.hid hlP
      have Hm2 := Lib.hid hm
      clear hM hM0 hl hn hrng hP hs hw hL hR hqi hidx hpl hp hm hin hnew htk hx64 heven hxi hq ho hx512 hg hhd hob hIF hfx hU hae hbk hTo hNo hlP hplc hpre hi hn64 hq64
      go_enter Try.func63, Try.ntmps63
      go_wp2_with fail
      refine HR.out.mono ?_
      rintro e w1 ⟨rfl, rfl⟩
      clear HR
      go_wp2_with fail
      refine HU.out.mono ?_
      rintro e w2 ⟨rfl, hb2⟩
      have hM2 := HM.out.call hb2
      have hM3 := hM2.alloc #[.int .i64 m, .bool bk, .int .i64 a] 35
      obtain ⟨bH, hbH⟩ : ∃ bH, w2.heap.size = bH := ⟨_, rfl⟩
      obtain ⟨W3, hW3⟩ : ∃ W3, w2.alloc (.cells #[.int .i64 m, .bool bk, .int .i64 a] 35) = W3 := ⟨_, rfl⟩
      rw [hbH, hW3] at hM3
      have s1 : W3.cell? ⟨bM, 1, none⟩ = some (.slice at_ p ct) := by have := hM3.cell 1 rfl 1; simpa using this
      have s2 : W3.cell? ⟨bM, 2, none⟩ = some (.map (some bm)) := by have := hM3.cell 1 rfl 2; simpa using this
      have sz : bM < W3.heap.size := (hM3.box 1 rfl).2.1
      have HMd := Lib.hid hM3.drew
      have HbH := Lib.hid hbH
      have HW3 := Lib.hid hW3
      clear hM2 hM3 hb2 HU HM hbH hW3 l1 d0 e0 e1 e2 ez hbz
      go_wp2
      rw [HbH.out, HW3.out]
      obtain ⟨w5, hrun, hM5, hs5⟩ := HMd.out.run_putG (M := mapII) 3 rfl HlP.out (q : Int) (.int .i64 p) Hq64.out
      have r1 : (Instr.mapUpdate 97 (.map (some bm)) (.int .i64 q) (.int .i64 p)).run Try.prog W3.drew = .ok () w5 := hrun
      have c0 : w5.cell? ⟨bH, 0, none⟩ = some (.int .i64 m) := by have := hM5.cell 0 rfl 0; simpa using this
      have c2 : w5.cell? ⟨bH, 2, none⟩ = some (.int .i64 a) := by have := hM5.cell 0 rfl 2; simpa using this
      have cz : bH < w5.heap.size := (hM5.box 0 rfl).2.1
      have HM5 := Lib.hid hM5
      clear hrun hM5 hs5 HMd
      go_cut [5] (fun s5 W => s5 = .int .i64 q ∧ W = w5)
      case first =>
        go_region_law (fail)
        all_goals
          go_wp2_with fail
          go_meet
          exact ⟨rfl, rfl⟩
      case rest =>
        obtain ⟨rfl, rfl⟩ := hcut
        obtain ⟨a2, ha2⟩ : ∃ a2, min (a + 1) 7 = a2 := ⟨_, rfl⟩
        have ha3 : 0 ≤ a2 ∧ a2 ≤ 7 := by rw [← ha2]; omega
        have HHd := Lib.hid (head_ok m a2 false wc (by omega) (by omega) ha3.1 ha3.2)
        obtain ⟨hd, hhd⟩ : ∃ hd, headW m a2 false = hd := ⟨_, rfl⟩
        rw [hhd] at HHd
        have hTo2 := HTo.out
        rw [ha2, hhd] at hTo2
        have hd64 : w64 hd := by rw [← hhd]; exact (headB m a2 hm4 ha3.1 ha3.2).2.2
        have HTo2 := Lib.hid hTo2
        have Hd64 := Lib.hid hd64
        have Ha2 := Lib.hid ha2
        clear r1 s1 s2 sz hTo2 hd64 hhd ha3 HTo
        go_wp2_with fail
        refine HHd.out.mono ?_
        rintro e w6 ⟨rfl, hb6⟩
        have hM6 : Mem w0.heap.size w0 w6 ([ebox bM #[.slice (some ⟨b, off, none⟩) ws.length cw, .slice at_ p ct, .map (some bm)] 99, rowW 55 (.slice at_ p ct) (toW os F (hdC os) P s), gmap mapII bm (P ++ [(i : Int)]).length (nowF os F (P ++ [(i : Int)]))] ++ L) :=
          ((HM5.out.call hb6).drop (List.sublist_cons_self _ _)).cast (by rw [HNo.out, List.length_append]; rfl)
        have s0 : w6.cell? ⟨bM, 0, none⟩ = some (.slice (some ⟨b, off, none⟩) ws.length cw) := by have := hM6.cell 0 rfl 0; simpa using this
        have s1 : w6.cell? ⟨bM, 1, none⟩ = some (.slice at_ p ct) := by have := hM6.cell 0 rfl 1; simpa using this
        have sz : bM < w6.heap.size := (hM6.box 0 rfl).2.1
        have HMd := Lib.hid hM6.drew
        have HMa := Lib.hid (hM6.alloc_ (.cells #[.int .u64 hd] 55)).drew
        have HIw : Hid (IsW ((w6.alloc (.cells #[.int .u64 hd] 55)).drew) (.slice (some ⟨w6.heap.size, 0, none⟩) 1 1) [hd]) := Lib.hid ((isW_one w6 hd 55 Hd64.out).later (Below.refl _ _).drew)
        have Hlf : Hid ((toW os F (hdC os) P s).length + [hd].length ≤ 1000000) := Lib.hid (by rw [htl]; simp; omega)
        have Hlf2 : Hid ((toW os F (hdC os) P s ++ [hd]).length + o.2.length ≤ 1000000) := Lib.hid (by rw [List.length_append, htl, Hm2.out]; simp; omega)
        clear hM6 hb6 HHd HM5 c0 c2 cz htl
        go_wp2
        go_cut [5] (fun s5 W => s5 = .int .i64 q ∧ ∃ tv', Mem w0.heap.size w0 W (ownM bM bm (.slice (some ⟨b, off, none⟩) ws.length cw) tv' os F (P ++ [(i : Int)]) s ++ L))
        case first =>
          go_region_law (first
            | (refine Mem.step_appWs elemWords rfl (.tmp 68) (.tmp 70) rfl HMa.out 1 rfl rfl rfl HIw.out Hlf.out ?_
               intro v7 w7 hM7 hs7 hk7
               obtain ⟨a7, n7, c7, rfl⟩ := own_slice (hM7.row 1 rfl)
               have t0 : w7.cell? ⟨bM, 0, none⟩ = some (.slice (some ⟨b, off, none⟩) ws.length cw) := by have := hM7.cell 0 rfl 0; simpa using this
               have t1 : bM < w7.heap.size := (hM7.box 0 rfl).2.1)
            | (refine Mem.step_appWs elemWords rfl (.tmp 68) (.tmp 70) rfl hM8 1 rfl rfl rfl (HIw.out.later hb8) Hlf.out ?_
               intro v7 w7 hM7 hs7 hk7
               obtain ⟨a7, n7, c7, rfl⟩ := own_slice (hM7.row 1 rfl))
            | (refine Mem.step_appWs elemWords rfl (.tmp 68) (.tmp 70) rfl (hM8.alloc_ (.cells #[.int .u64 hd] 55)) 1 rfl rfl rfl (isW_one w8 hd 55 Hd64.out) Hlf.out ?_
               intro v7 w7 hM7 hs7 hk7
               obtain ⟨a7, n7, c7, rfl⟩ := own_slice (hM7.row 1 rfl))
            | (refine Mem.step_appWs elemWords rfl (.tmp 71) (.tmp 77) rfl hM8 1 rfl rfl rfl (HIF.out.later hM8.below) Hlf2.out ?_
               intro v9 w9 hM9 hs9 hk9
               obtain ⟨a9, n9, c9, rfl⟩ := own_slice (hM9.row 1 rfl)
               have f9 : w9.frozen? ⟨bM, 1, none⟩ = false := hM9.free 0 rfl 1
               have d9 : w9.cell? ⟨bM, 1, none⟩ = some (.slice at_ p ct) := by have := hM9.cell 0 rfl 1; simpa using this)
            | (refine Mem.step_appWs elemWords rfl (.tmp 71) (.tmp 77) rfl hM7 1 rfl rfl rfl (HIF.out.later hM7.below) Hlf2.out ?_
               intro v9 w9 hM9 hs9 hk9
               obtain ⟨a9, n9, c9, rfl⟩ := own_slice (hM9.row 1 rfl)
               have f9 : w9.frozen? ⟨bM, 1, none⟩ = false := hM9.free 0 rfl 1
               have d9 : w9.cell? ⟨bM, 1, none⟩ = some (.slice at_ p ct) := by have := hM9.cell 0 rfl 1; simpa using this)
            | (go_simp
               refine (HFx.out _ hM7.below).mono ?_
               rintro e w8 ⟨rfl, hb8⟩
               have hM8 := hM7.call hb8)
            | (go_simp
               refine (HFx.out _ HMa.out.below).mono ?_
               rintro e w8 ⟨rfl, hb8⟩
               have hM8 := HMa.out.call hb8
               have t1 : w8.cell? ⟨bM, 1, none⟩ = some (.slice at_ p ct) := by have := hM8.cell 0 rfl 1; simpa using this
               have tz : bM < w8.heap.size := (hM8.box 0 rfl).2.1)
            | (go_simp
               refine (HFx.out _ HMd.out.below).mono ?_
               rintro e w8 ⟨rfl, hb8⟩
               have hM8 := HMd.out.call hb8
               have t1 : w8.cell? ⟨bM, 1, none⟩ = some (.slice at_ p ct) := by have := hM8.cell 0 rfl 1; simpa using this
               have tz : bM < w8.heap.size := (hM8.box 0 rfl).2.1))
          all_goals
            go_wp2_with fail
            go_meet
            exact ⟨rfl, _, (hM9.setBox 0 rfl 1 (.slice a9 n9 c9)).cast (by unfold ownM; rw [HTo2.out]; rfl)⟩
        case rest =>
          obtain ⟨rfl, tv', hM7⟩ := hcut
          have hM8 := hM7
          unfold ownM at hM7
          have c2 : wc.cell? ⟨bM, 2, none⟩ = some (.map (some bm)) := by have := hM7.cell 0 rfl 2; simpa using this
          have cz : bM < wc.heap.size := (hM7.box 0 rfl).2.1
          have hnq : nowF os F (P ++ [(i : Int)]) (q : Int) = some (.int .i64 p) := by rw [HNo.out]; simp
          have hl := (gmap_look (M := mapII) (hM7.get 2 rfl) (x := (q : Int)) Hq64.out).1
          rw [hnq] at hl
          have l2 : (Instr.lookup 97 (.map (some bm)) (.int .i64 q) false).run Try.prog wc = .ok (.int .i64 p) wc := hl
          have HM8 := Lib.hid hM8
          clear hM7 hM8 hl hnq s0 s1 sz HMa HMd HIw
          go_wp2
          go_ret
          exact ⟨by rw [Hm.out.1]; simp; omega, tv', by rw [Hm.out.2]; exact HM8.out⟩
end Go.Proofs.Ytigdpdndnghldaa
