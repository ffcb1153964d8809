/- Buddies: what is free, walked. -/
import Derived.Test.YtmbcfbehchpfbaaXl
import Derived.Test.YtmbcfbehchpfbaaXj
namespace Go.Proofs.Ytmbcfbehchpfbaa
open Go.RowKit Go.Maps

def BlocksSays (B : Nat) (w0 : World) (R : List Ent) (lev : Nat) (fr : Fr) (e : Ending) (w' : World) : Prop :=
  ∃ v, e = .returned v ∧ Mem B w0 w' (rowB v (freeB lev fr) :: R)
set_option maxRecDepth 100000 in
set_option maxHeartbeats 2000000 in
theorem yblocks_any (B : Nat) (w0 w : World) (By bt lev : Nat) (hl : lev ≤ 7) (bs c : Nat → Nat) (s : BSt) (hP : PInv lev s.fr) (L' : List Ent) (hM : Mem B w0 w (ownY By bt lev bs c s ++ L')) :
    Calls Try.prog 37 #[.pointer (some ⟨By, 0, none⟩)] w (BlocksSays B w0 (ownY By bt lev bs c s ++ L') lev s.fr) := by
  have hc : ∀ j, w.cell? ⟨By, j, none⟩ = (yardC lev bt bs)[j]? := fun j => hM.cell 0 rfl j
  have c1 := hc 1
  have c2 := hc 2
  have c3 := hc 3
  have c4 := hc 4
  have c5 := hc 5
  have c6 := hc 6
  have c7 := hc 7
  have c8 := hc 8
  have zB : By < w.heap.size := (hM.box 0 rfl).2.1
  simp [yardC] at c1 c2 c3 c4 c5 c6 c7 c8
  have HM0 : Hid (Mem B w0 w (rowB (.slice none 0 0) [] :: (ownY By bt lev bs c s ++ L'))) := Lib.hid (hM.nil 34 2)
  have HP := Lib.hid hP
  clear hM hc hP
  go_enter Try.func37, Try.ntmps37
  go_wp2
  go_loopw [3, 11] (fun s3 s11 wr => ∃ (i : Nat) (l : List (Nat × Nat)) (a : Option Addr) (nn cc : Nat), i ≤ 8 ∧ BlkRel s.fr i l ∧ s3 = .slice a nn cc ∧ s11 = .int .i64 (i : Int) ∧ Mem B w0 wr (rowB s3 l :: (ownY By bt lev bs c s ++ L'))) (fun _ s11 _ => 8 - (intOf s11).toNat)
  case atStart => exact ⟨0, [], none, 0, 0, by omega, BlkRel.nil _, rfl, rfl, HM0.out⟩
  case round =>
    clear HM0
    obtain ⟨i, l, sa, sn, sc, hi, hR, rfl, rfl, hM⟩ := hrel
    have HM := Lib.hid hM
    have HR := Lib.hid hR
    clear hR
    by_cases hlt : i < 8
    · have q1 : decide ((i : Int) < 8) = true := decide_eq_true (by omega)
      have q1n : decide (i < 8) = true := decide_eq_true hlt
      have q3 : (0 : Int) ≤ (i : Int) := by omega
      have q4 : (i : Int) < 8 := by omega
      have hpart : Sem.run Try.prog (Instr.index 102 (.agg #[.map (some (bs 0)), .map (some (bs 1)), .map (some (bs 2)), .map (some (bs 3)), .map (some (bs 4)), .map (some (bs 5)), .map (some (bs 6)), .map (some (bs 7))]) (.int .i64 (i : Int))) wr = .ok (.map (some (bs i))) wr := by
        clear HM HR hM
        rcases lt8 hlt with rfl | rfl | rfl | rfl | rfl | rfl | rfl | rfl <;> kernel_rfl
      clear hM
      have hki : (rowB (.slice sa sn sc) l :: (ownY By bt lev bs c s ++ L'))[2 + i + 1]? = some (gmap mapII (bs i) (c i) (frV (s.fr i))) := ownY_at By bt lev bs c s L' hlt
      have Hki := Lib.hid hki
      clear hki
      go_wp2_with (at_range; refine Mem.wp_rangeG (M := mapII) rfl _ rfl HM.out (2 + i + 1) Hki.out rfl ?_; intro w5 r cn mo ro hM9 hR9 hcnt hr9 hs9 hb9)
      go_frame
      have HM9 := Lib.hid hM9
      have HR9 := Lib.hid hR9
      clear hM9 hR9 hr9 hb9 hcnt hs9
      go_loopg [3] cn (fun gk s3 wr => ∃ (left : Int → Bool) (ro : Obj) (l2 : List (Nat × Nat)) (a : Option Addr) (nn cc : Nat), s3 = .slice a nn cc ∧ BlkIn s.fr i l2 left ∧ Ranging mapII (bs i) r (c i) (frV (s.fr i)) left gk mo ro ∧ Mem B w0 wr (efix r ro :: rowB s3 l2 :: (ownY By bt lev bs c s ++ L').set (2 + i) (efix (bs i) mo)))
      case atStart => exact ⟨_, _, l, sa, sn, sc, rfl, HR.out.start (fun p hp => by rw [frV_nat, if_pos hp]; rfl), HR9.out, HM9.out⟩
      case round =>
        clear HM9 HR9 HM HR
        obtain ⟨left, ro5, l2, ta, tn, tc, rfl, hB, hR, hM⟩ := hrel
        have HMr := Lib.hid hM
        have HR := Lib.hid hR
        have HB := Lib.hid hB
        have hkl : 2 + i < (ownY By bt lev bs c s ++ L').length := (List.getElem?_eq_some_iff.1 (ownY_at By bt lev bs c s L' hlt)).1
        have hkm : (efix r ro5 :: rowB (.slice ta tn tc) l2 :: (ownY By bt lev bs c s ++ L').set (2 + i) (efix (bs i) mo))[2 + i + 1 + 1]? = some (efix (bs i) mo) := by
          show ((ownY By bt lev bs c s ++ L').set (2 + i) (efix (bs i) mo))[2 + i]? = _
          rw [List.getElem?_set_self hkl]
        have Hkm := Lib.hid hkm
        have hln := hB.len hl HP.out
        have Hln : Hid (l2.length ≤ 1000000) := Lib.hid (by omega)
        have hw := wrap_pow hlt
        obtain ⟨P, hPw⟩ : ∃ P : Nat, 2 ^ i = P := ⟨_, rfl⟩
        rw [hPw] at hw
        have HPw := Lib.hid hPw
        clear hM hR hB hkm hln hPw
        go_wp2_with (first
          | (at_next; refine Mem.wp_nextII rfl _ rfl HMr.out 0 (2 + i + 1 + 1) rfl Hkm.out HR.out rfl ?_ ?_; (focus (intro hc0 hl0)); rotate_left; (focus (intro x v w6 c6 ro6 hx6 hl6 hf6 hM11 hR11 hlt6 hs6 hen6; obtain ⟨p, rfl, hp, rfl⟩ := frV_some hf6)))
          | (at_builtin; refine Mem.wp_appT elemBlocks rfl (.tmp 21) (.tmp 26) rfl hM11 1 rfl rfl _ (p, P) #[.int .i64 (p : Int), .int .i64 (P : Int)] rfl _ _ rfl hs6 rfl rfl (by decide) Hln.out ?_; intro ad n1 cp w8 hn1 hM12 hs8 hk8 ha8))
        · go_roundg c6
          case rel => exact ⟨_, ro6, _, ad, n1, cp, rfl, HPw.out ▸ HB.out.step HP.out hp hl6, hR11, hM12⟩
          case measure => exact hlt6
        · have hMe := HMr.out.rangeEnd (2 + i + 1 + 1) Hkm.out HR.out
          have hMe2 : Mem B w0 wr (rowB (.slice ta tn tc) l2 :: (ownY By bt lev bs c s ++ L')) := (hMe.drop (L' := rowB (.slice ta tn tc) l2 :: (ownY By bt lev bs c s ++ L')) (by
            have e : (efix r ro5 :: rowB (.slice ta tn tc) l2 :: (ownY By bt lev bs c s ++ L').set (2 + i) (efix (bs i) mo)).set (2 + i + 1 + 1) (gmap mapII (bs i) (c i) (frV (s.fr i))) = efix r ro5 :: rowB (.slice ta tn tc) l2 :: (ownY By bt lev bs c s ++ L') := by
              rw [List.set_cons_succ, List.set_cons_succ, List.set_set]
              have hx := List.getElem?_eq_some_iff.1 (ownY_at By bt lev bs c s L' hlt)
              obtain ⟨_, hx⟩ := hx
              rw [← hx, List.set_getElem_self]
            rw [e]; exact List.sublist_cons_self _ _))
          have HMe := Lib.hid hMe2
          have HBd := Lib.hid (HB.out.done (fun p hp => hl0 (p : Int) (by
            have := HP.out.en i p hp
            have := (pow_le7 hl).1
            have := Nat.two_pow_pos i
            unfold i64ok; omega)))
          clear hMe hMe2
          go_wp2_with fail
          go_roundw
          case rel => exact ⟨i + 1, l2, ta, tn, tc, by omega, HBd.out, rfl, by go_num, HMe.out⟩
          case measure => simp [intOf]; omega
    · obtain rfl : i = 8 := by omega
      have hln : l.length ≤ 1000 := by
        have := (HR.out.start (left := fun _ => true) (fun _ _ => rfl)).len hl HP.out
        omega
      have HS := Lib.hid (sort_any B w0 wr _ 0 (.slice sa sn sc) l hM rfl hln)
      clear hM hln HM
      go_wp2_with fail
      with_reducible refine HS.out.mono ?_
      rintro e w3 ⟨rfl, d, hp, hs, hM3⟩
      obtain rfl := sorted_free hl HP.out HR.out.1 HR.out.2 hp hs
      have HM3 := Lib.hid hM3
      clear hM3 hp hs HS
      go_wp2
      go_ret
      exact ⟨_, rfl, HM3.out⟩
end Go.Proofs.Ytmbcfbehchpfbaa
