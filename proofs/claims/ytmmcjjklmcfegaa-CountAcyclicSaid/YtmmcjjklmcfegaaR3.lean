/- Counting: an object goes. -/
import Derived.Test.YtmmcjjklmcfegaaR2
namespace Go.Proofs.Ytmmcjjklmcfegaa
open Go.RowKit Go.Shelf
section
variable (B : Nat) (w0 : World) (bx : Nat) (regs : List V) (mv : Value) (bm : Nat) (room : Int)
set_option maxRecDepth 100000 in
set_option maxHeartbeats 4000000 in
theorem drop_of_down {N : Nat} (hD : DownC B w0 bx regs mv bm room N) : DropC B w0 bx regs mv bm room (N + 1) := by
  intro T w s i p rg hN hI hi h0 hS ⟨vo, cs, vc, vg, hc, hM⟩
  have hI1 := hI.drop hi (by rw [Int.toNat_natCast]; exact h0) (s.gone ++ [(i : Int)])
  rw [Int.toNat_natCast] at hI1
  have hob := hi.obj
  rw [Int.toNat_natCast] at hob
  have hal := alive_set hob
  have hob2 := hob
  rw [← hc] at hob2
  obtain ⟨o, ho, hl⟩ := conts_get hob2
  rw [hc] at hl
  have hol : o.l.length ≤ 1000 := by rw [hl]; exact hS.flds i _ hob
  have O := oAt_of (A := cA bx regs mv bm room (alive s.os) vo cs vc s.cs vg s.gone) (kp := 2) (vo := vo) (cs := cs) (R := T) rfl
  obtain ⟨g, cap, rfl, q0, q1, q2⟩ := hM.ptrAt O ho
  obtain ⟨q3, q4, ao, co, hov⟩ := hM.objAt O ho
  rw [hov] at q3
  have m0 : w.cell? ⟨bm, 0, none⟩ = some (.slice (some ⟨g, 0, none⟩) cs.length cap) := hM.cell 1 rfl 0
  have mb : bm < w.heap.size := (hM.box 1 rfl).2.1
  have hlt : i < cs.length := (List.getElem?_eq_some_iff.1 ho).1
  have e1 : (i : Int) < (cs.length : Int) := by omega
  have hM1 := hM.setRow (n := cs.length) 2 rfl i (.pointer none)
  have hgl : s.gone.length ≤ 1000000 := by have := hS.room; omega
  unfold ptrO at q0
  simp only at q0
  obtain ⟨W1, hW1⟩ : ∃ W1, w.setCell ⟨g, i, none⟩ (.pointer none) = W1 := ⟨_, rfl⟩
  rw [hW1] at hM1
  have m4 : W1.cell? ⟨bm, 4, none⟩ = some (.int .i64 (alive s.os : Int)) := hM1.cell 1 rfl 4
  have f4 := hM1.free 1 rfl 4
  have mb1 : bm < W1.heap.size := (hM1.box 1 rfl).2.1
  have hM2 := hM1.setBox 1 rfl 4 (.int .i64 ((alive s.os : Int) - 1))
  obtain ⟨W2, hW2⟩ : ∃ W2, W1.setCell ⟨bm, 4, none⟩ (.int .i64 ((alive s.os : Int) - 1)) = W2 := ⟨_, rfl⟩
  rw [hW2] at hM2
  have m5 : W2.cell? ⟨bm, 5, none⟩ = some vg := hM2.cell 1 rfl 5
  have mb2 : bm < W2.heap.size := (hM2.box 1 rfl).2.1
  have ha : (alive s.os : Int) ≤ 2000 := by have := hS.room; omega
  have hM3 := objs_take (A := [mbox bx regs mv, ebox bm #[.slice (some ⟨g, 0, none⟩) cs.length cap, .pointer (some ⟨bx, 0, none⟩), vc, .int .i64 room, .int .i64 ((alive s.os : Int) - 1), vg] 99, erow 101 1 (.slice (some ⟨g, 0, none⟩) cs.length cap) cs.length ((cs.map ptrO).set i (.pointer none)), rowI 3 vc s.cs, rowI 3 vg s.gone]) ho (hM2.cast rfl)
  have e3 : erow 101 1 (.slice (some ⟨g, 0, none⟩) cs.length cap) cs.length ((cs.map ptrO).set i (.pointer none)) = rowP (.slice (some ⟨g, 0, none⟩) cs.length cap) (cs.set i none) := by
    unfold rowP; rw [List.length_set, List.map_set]; rfl
  rw [e3] at hM3
  have hal2 : (alive s.os : Int) - 1 = (alive (s.os.set i none) : Int) := by omega
  have HM3 := Lib.hid hM3
  have HW1 := Lib.hid hW1
  have HW2 := Lib.hid hW2
  have Hc := Lib.hid hc
  have Hl := Lib.hid hl
  have HI := Lib.hid hI1
  have HS := Lib.hid hS
  have HD := Lib.hid hD
  have Hal := Lib.hid hal2
  have Hov := Lib.hid hov
  have HN := Lib.hid hN
  have Hha := Lib.hid hal
  clear hM hM1 hM2 hM3 hW1 hW2 hc hl hI hI1 hS hD hi h0 hob hob2 ho hal hal2 e3 O hov hN
  go_enter Try.func45, Try.ntmps45
  go_upto_region 2 with (fail)
  rw [HW1.out]
  clear q0 q1 q2 q3 q4 m0
  go_upto_region 3 with (fail)
  rw [HW2.out]
  go_wp2_with (at_builtin; refine Mem.wp_appI elemInts rfl (.tmp 34) (.tmp 36) rfl HM3.out 4 rfl rfl _ (i : Int) _ _ rfl (by simp) hgl ?_; intro ad n1 cp w3 hn1 hM4 hs3 hk3 ha3; have m6 : w3.cell? ⟨bm, 5, none⟩ = some vg := hM4.cell 1 rfl 5; have f6 : w3.frozen? ⟨bm, 5, none⟩ = false := hM4.free 1 rfl 5; have mb3 : bm < w3.heap.size := (hM4.box 1 rfl).2.1; have hM5 := Lib.hid (hM4.setBox 1 rfl 5 (.slice ad n1 cp)); clear hM4)
  obtain ⟨W4, hW4⟩ : ∃ W4, w3.setCell ⟨bm, 5, none⟩ (.slice ad n1 cp) = W4 := ⟨_, rfl⟩
  rw [hW4] at hM5 ⊢
  obtain ⟨s1, hs1⟩ : ∃ s1 : Cst, s1 = ⟨s.os.set i none, s.cs, s.gone ++ [(i : Int)]⟩ := ⟨_, rfl⟩
  have hC0 : CM B w0 bx regs mv bm room s1 (rowV 80 o.v o.l :: T) W4 := by
    have := hM5.out
    rw [Hal.out] at this
    refine ⟨.slice (some ⟨g, 0, none⟩) cs.length cap, cs.set i none, vc, .slice ad n1 cp, ?_, ?_⟩
    · rw [hs1, ← Hc.out]; unfold conts; rw [List.map_set]; rfl
    · rw [hs1]; exact this
  have hInv : InvP rg s1 (o.l ++ p) := by rw [hs1, Hl.out]; have := HI.out; exact this
  have hSm : Small s1 := by
    refine ⟨by rw [hs1]; exact HS.out.cs, ?_, fun k l h => by rw [hs1] at h; exact HS.out.flds k l (unset_get h).2⟩
    have h1 := HS.out.room
    have h2 := Hha.out
    rw [hs1]
    show (s.gone ++ [_]).length + alive (s.os.set i none) ≤ 2000
    rw [List.length_append, List.length_singleton]; omega
  have hAl : alive s1.os ≤ N := by
    have h1 := HN.out
    have h2 := Hha.out
    rw [hs1]; show alive (s.os.set i none) ≤ N; omega
  have HC0 := Lib.hid hC0
  have HInv := Lib.hid hInv
  have HSm := Lib.hid hSm
  have HAl := Lib.hid hAl
  have Hs1 := Lib.hid hs1
  have Hn1 := Lib.hid hn1
  clear hC0 hInv hSm hAl hs1 hM5 m6 f6 mb3 hn1 hW4 m4 f4 mb1 m5 mb2 mb
  go_loopw [6, 42] (fun _ s42 wr => ∃ k : Nat, k ≤ o.l.length ∧ s42 = .int .i64 (k : Int) ∧ CM B w0 bx regs mv bm room (dnF (o.l.take k) s1) (rowV 80 o.v o.l :: T) wr) (fun _ i _ => o.l.length - (intOf i).toNat)
  case atStart => exact ⟨0, Nat.zero_le _, rfl, by rw [List.take_zero, dnF_of (.nil s1)]; exact HC0.out⟩
  case round =>
    clear HC0
    obtain ⟨k, hk, rfl, hC⟩ := hrel
    by_cases hlt : k < o.l.length
    · obtain ⟨x, hx⟩ := get_some _ _ hlt
      have hsp : o.l.take k ++ (x :: (o.l.drop (k + 1) ++ p)) = o.l ++ p := by
        have h1 := List.take_append_drop k o.l
        rw [List.drop_eq_getElem_cons hlt, (List.getElem?_eq_some_iff.1 hx).2] at h1
        conv => rhs; rw [← h1]
        simp
      obtain ⟨hDn, hE⟩ := dnF_end (p := o.l.take k) (q := x :: (o.l.drop (k + 1) ++ p)) (rg := rg) (s := s1) (by rw [hsp]; exact HInv.out)
      obtain ⟨hDn2, _⟩ := dnF_end (p := [x]) (q := o.l.drop (k + 1) ++ p) (rg := rg) hE.inv
      have hst := dnF_step hx hDn hDn2
      obtain ⟨vo2, cs2, vc2, vg2, hc2, hM⟩ := hC
      obtain ⟨kk, hkk⟩ := List.getElem?_of_mem (show rowV 80 o.v o.l ∈ cA bx regs mv bm room (alive (dnF (o.l.take k) s1).os) vo2 cs2 vc2 (dnF (o.l.take k) s1).cs vg2 (dnF (o.l.take k) s1).gone ++ (objsE cs2 ++ (rowV 80 o.v o.l :: T)) by simp)
      obtain ⟨gv, c2, hv, v0, v1, _, vb⟩ := hM.valAt kk hkk hx
      have hv2 := Hov.out.symm.trans hv
      cases hv2
      have hMa := hM.alloc_ (.cells #[.bool x.ref, .int .i64 x.n] 80)
      have hCa : CM B w0 bx regs mv bm room (dnF (o.l.take k) s1) (rowV 80 o.v o.l :: T) (wr.alloc (.cells #[.bool x.ref, .int .i64 x.n] 80)) := ⟨vo2, cs2, vc2, vg2, hc2, hMa⟩
      have hdo := HD.out _ _ _ x _ rg (Nat.le_trans hE.alive HAl.out) hE.inv (HSm.out.on hE) hCa
      rw [← hst] at hdo
      have Hdo := Lib.hid hdo
      have e2 : (k : Int) < (o.l.length : Int) := by omega
      clear hdo hCa hMa hc2 hM hkk hst hDn2 hDn hE hsp hx hv
      go_wp2_with fail
      refine Hdo.out.mono ?_
      rintro e w5 ⟨rfl, h5⟩
      have H5 := Lib.hid h5
      clear Hdo h5
      go_wp2_with fail
      go_roundw
      case rel => exact ⟨k + 1, by omega, by go_num, H5.out⟩
      case measure => simp [intOf]; omega
    · obtain rfl : k = o.l.length := by omega
      rw [List.take_length] at hC
      have HC := Lib.hid hC
      clear hC
      go_wp2_with fail
      refine bodyPost_end (results_none rfl _ _ _) rfl ?_
      refine ⟨rfl, ?_⟩
      rw [← Hs1.out, ← Hl.out]
      obtain ⟨vo2, cs2, vc2, vg2, h1, h2⟩ := HC.out
      exact ⟨vo2, cs2, vc2, vg2, h1, h2.drop (List.Sublist.append_left (List.Sublist.append_left (List.sublist_cons_self _ _) _) _)⟩
theorem drop_any : ∀ N, DropC B w0 bx regs mv bm room N := by
  intro N
  induction N with
  | zero =>
    intro T w s i p rg hN hI hi
    have := alive_set hi.obj
    omega
  | succ N ih => exact drop_of_down B w0 bx regs mv bm room (down_of_drop B w0 bx regs mv bm room ih)
theorem down_any (N : Nat) : DownC B w0 bx regs mv bm room N := down_of_drop B w0 bx regs mv bm room (drop_any B w0 bx regs mv bm room N)
end
end Go.Proofs.Ytmmcjjklmcfegaa
