/- masked with all bits: all objects. -/
import Derived.Test.YtdmgpiimacnapaaMa
import Derived.Test.YtdmgpiimacnapaaTk
namespace Go.Proofs.Ytdmgpiimacnapaa
open Go.RowKit Go.Shelf

theorem all_bits : ∀ k : Nat, k < 24 → ((16777215 / 2 ^ k : Int).tmod 2 == 1) = true := by decide
set_option maxRecDepth 100000 in
set_option maxHeartbeats 1000000 in
theorem masked_full (n : Nat) (hn : n ≤ 24) (w : World) :
    Calls Try.prog 25 #[.int .i64 n, .int .u32 16777215] w fun e w' => ∃ v, e = .returned v ∧ Mem w.heap.size w w' [rowI 3 v (uptoL n)] := by
  have hM0 : Mem w.heap.size w w [rowI 3 (.slice none 0 0) (uptoL 0)] := (Mem.start w).nilI 3
  go_enter Try.func25, Try.ntmps25
  go_wp2
  go_loopw [5, 6] (fun v i wr => ∃ (k : Nat), k ≤ n ∧ i = .int .i64 k ∧ Mem w.heap.size w wr [rowI 3 v (uptoL k)]) (fun _ i _ => n - (intOf i).toNat)
  case atStart => exact ⟨0, Nat.zero_le _, rfl, hM0⟩
  case round =>
    obtain ⟨k, hk, rfl, hM⟩ := hrel
    have HM := Lib.hid hM
    have Hul := Lib.hid (show (uptoL k).length ≤ 24 by rw [uptoL_len]; omega)
    clear hM
    by_cases hlt : k < n
    · have hlt2 : k < 32 := by omega
      have hbit := all_bits k (by omega)
      go_wp2_with (at_builtin; refine Mem.wp_appI elemInts rfl (.tmp 22) (.tmp 24) rfl HM.out 0 rfl rfl _ (k : Int) _ _ rfl (by simp) (by have := Hul.out; omega) ?_; intro ad n1 cp w1 hn1 hM3 hs1 hk1 ha1)
      go_roundw
      case rel =>
        exact ⟨k + 1, by omega, by go_num, hM3.cast (by rw [uptoL_succ]; rfl)⟩
      case measure => simp [intOf]; omega
    · obtain rfl : k = n := by omega
      go_wp2
      go_ret
      exact ⟨_, rfl, HM.out⟩
end Go.Proofs.Ytdmgpiimacnapaa
