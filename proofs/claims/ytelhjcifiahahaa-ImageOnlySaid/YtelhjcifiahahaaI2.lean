/- Graphs as bytes: a value, walked. -/
import Derived.Test.YtelhjcifiahahaaI1
import Derived.Deep.DeepCutAuto
import Derived.Deep.RegionHeld3
import Derived.Deep.RegionLaw
import Derived.Deep.DrawnRows
namespace Go.Proofs.Ytelhjcifiahahaa
open Go.RowKit

theorem encY_one (b : Nat) : ∀ v ∈ encY b, v.oneCell' = true := by simp [encY]; rfl
def kindB (r : Bool) : Nat := if r then 1 else 0
set_option maxRecDepth 100000 in
set_option maxHeartbeats 1000000 in
theorem value_any (B : Nat) (w0 w : World) (b : Value) (bs : List Nat) (r : Bool) (n : Int) (L' : List Ent) (hM : Mem B w0 w (rowY b bs :: L')) (h64 : i64ok n) (hl : bs.length ≤ 100000) :
    Calls Try.prog 37 #[b, .agg #[.bool r, .int .i64 n]] w fun e w' => ∃ b', e = .returned b' ∧ Mem B w0 w' (rowY b' (bs ++ valB ⟨r, n⟩) :: L') := by
  have hMa := hM.alloc #[.bool r, .int .i64 n] 64
  obtain ⟨W, hW⟩ : ∃ W, w.alloc (.cells #[.bool r, .int .i64 n] 64) = W := ⟨_, rfl⟩
  obtain ⟨bv, hbv⟩ : ∃ bv, w.heap.size = bv := ⟨_, rfl⟩
  rw [hW, hbv] at hMa
  have HW := Lib.hid hW
  have Hbv := Lib.hid hbv
  have a0 : W.cell? ⟨bv, 0, none⟩ = some (.bool r) := by have := hMa.cell 0 rfl 0; simpa using this
  have a1 : W.cell? ⟨bv, 1, none⟩ = some (.int .i64 n) := by have := hMa.cell 0 rfl 1; simpa using this
  have az : bv < W.heap.size := (hMa.box 0 rfl).2.1
  obtain ⟨ax, mx, cx, rfl⟩ := own_slice (hMa.row 1 rfl)
  have HM := Lib.hid hMa
  have HN := fun X => Lib.hid (num_any n X h64)
  have hnl := num_len h64
  have Hvb : Hid (bs ++ valB ⟨r, n⟩ = (bs ++ [kindB r]) ++ numB (zz n)) := Lib.hid (by unfold valB kindB; simp)
  clear hM hMa hW hbv
  go_enter Try.func37, Try.ntmps37
  go_upto_region 2 with (fail)
  rw [HW.out, Hbv.out]
  clear HW Hbv
  cases r with
  | true =>
    go_upto_region 4 with (fail)
    have HI := Lib.hid ((isTup_one (w := W) (enc := encY) (sz := 1) 1 #[.int .u8 1] rfl 5).later ((Below.refl _ _).drew))
    go_region_law (first
      | (refine Mem.step_appTl elemY encY_len encY_one rfl (.tmp 8) (.tmp 10) rfl (HM.out.alloc_ _).drew 1 rfl rfl rfl HI.out (by simp; omega) (by decide) ?_
         intro v5 w5 hM5 hs5 hk5
         have q5 : w5.cell? ⟨bv, 1, none⟩ = some (.int .i64 n) := by have := hM5.cell 0 rfl 1; simpa using this
         have z5 : bv < w5.heap.size := (hM5.box 0 rfl).2.1
         have HM5 := Lib.hid hM5
         clear hM5 hk5)
      | (go_simp
         refine (HN _).out.mono ?_
         rintro e w2 ⟨v2, rfl, hm2⟩
         have hM6 := HM5.out.callMem hm2
         have hI6 := hM6.isTup 0 rfl encY_len (by omega)
         clear hm2)
      | (refine Mem.step_appTl elemY encY_len encY_one rfl (.tmp 11) (.tmp 14) rfl hM6 2 rfl rfl rfl hI6 (by simp; omega) (by decide) ?_
         intro v7 w7 hM7 hs7 hk7))
    all_goals
      go_wp2_with fail
      go_ret
      refine ⟨_, rfl, ?_⟩
      rw [Hvb.out]
      exact (show Mem B w0 w7 (_ :: _ :: rowY v7 _ :: L') from hM7).drop ((List.sublist_cons_self _ _).trans (List.sublist_cons_self _ _))
  | false =>
    go_upto_region 4 with (fail)
    have HI := Lib.hid ((isTup_one (w := W) (enc := encY) (sz := 1) 0 #[.int .u8 0] rfl 5).later ((Below.refl _ _).drew))
    go_region_law (first
      | (refine Mem.step_appTl elemY encY_len encY_one rfl (.tmp 8) (.tmp 10) rfl (HM.out.alloc_ _).drew 1 rfl rfl rfl HI.out (by simp; omega) (by decide) ?_
         intro v5 w5 hM5 hs5 hk5
         have q5 : w5.cell? ⟨bv, 1, none⟩ = some (.int .i64 n) := by have := hM5.cell 0 rfl 1; simpa using this
         have z5 : bv < w5.heap.size := (hM5.box 0 rfl).2.1
         have HM5 := Lib.hid hM5
         clear hM5 hk5)
      | (go_simp
         refine (HN _).out.mono ?_
         rintro e w2 ⟨v2, rfl, hm2⟩
         have hM6 := HM5.out.callMem hm2
         have hI6 := hM6.isTup 0 rfl encY_len (by omega)
         clear hm2)
      | (refine Mem.step_appTl elemY encY_len encY_one rfl (.tmp 11) (.tmp 14) rfl hM6 2 rfl rfl rfl hI6 (by simp; omega) (by decide) ?_
         intro v7 w7 hM7 hs7 hk7))
    all_goals
      go_wp2_with fail
      go_ret
      refine ⟨_, rfl, ?_⟩
      rw [Hvb.out]
      exact (show Mem B w0 w7 (_ :: _ :: rowY v7 _ :: L') from hM7).drop ((List.sublist_cons_self _ _).trans (List.sublist_cons_self _ _))
end Go.Proofs.Ytelhjcifiahahaa
