/- ragpickerkeep.works, walked. -/
import Derived.Test.YtmmcjjklmcfegaaDwk
import Derived.Test.YtmmcjjklmcfegaaU2
import Derived.Test.YtmmcjjklmcfegaaBase12
namespace Go.Proofs.Ytmmcjjklmcfegaa
open Go.RowKit Go.Shelf

set_option maxRecDepth 100000 in
set_option maxHeartbeats 2000000 in
theorem worksK_any (n : Nat) (hn : n ≤ 1000) (w : World) : Calls Try.prog 34 #[.int .i64 (n : Int)] w fun e w' => ∃ v, e = .returned v ∧ Mem w.heap.size w w' [rowT 58 5 cellsD v (List.replicate n dWk)] := by
  have hM0 := (Mem.start w).nilT 58 5 cellsD
  have HM0 := Lib.hid hM0
  clear hM0
  go_enter Try.func34, Try.ntmps34
  go_upto_region 3 with (fail)
  go_loopw [3, 4] (fun s3 s4 wr => ∃ (k : Nat) (vD : Value), k ≤ n ∧ vD = s3 ∧ s4 = .int .i64 (k : Int) ∧ Mem w.heap.size w wr [rowT 58 5 cellsD vD (List.replicate k dWk)]) (fun _ i _ => n - (intOf i).toNat)
  case atStart => exact ⟨0, _, Nat.zero_le _, rfl, rfl, HM0.out⟩
  case round =>
    clear HM0
    obtain ⟨k, vD, hk, rfl, rfl, hM⟩ := hrel
    by_cases hlt : k < n
    · have e1 : (k : Int) < (n : Int) := by omega
      obtain ⟨aD, nD, cD, rfl⟩ := own_slice (hM.row 0 rfl)
      have hk1000 : (List.replicate k dWk).length ≤ 1000000 := by rw [List.length_replicate]; omega
      have HM := Lib.hid hM
      clear hM
      go_wp2_with (at_builtin; refine Mem.wp_appT elemDos rfl (.tmp 10) (.tmp 12) rfl HM.out 0 rfl rfl _ dWk #[.int .i64 8, .int .i64 0, .int .i64 0, .int .i64 0, .int .i64 0] rfl _ _ rfl (by simp) rfl rfl (by decide) hk1000 ?_; intro ad n1 cp w6 hn1 hM6 hs6 hk6 ha6)
      go_roundw
      case rel => exact ⟨k + 1, _, by omega, rfl, by go_num, by rw [List.replicate_succ']; exact hM6⟩
      case measure => simp [intOf]; omega
    · obtain rfl : k = n := by omega
      have e1 : ¬ (k : Int) < (k : Int) := by omega
      have HM := Lib.hid hM
      clear hM
      go_wp2
      go_ret
      exact ⟨_, rfl, HM.out⟩
end Go.Proofs.Ytmmcjjklmcfegaa
