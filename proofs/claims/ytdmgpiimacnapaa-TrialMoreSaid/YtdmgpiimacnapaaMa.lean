/- masked: some objects. -/
import Derived.Test.YtdmgpiimacnapaaLh
import Derived.Test.YtdmgpiimacnapaaOpen
namespace Go.Proofs.Ytdmgpiimacnapaa
open Go.RowKit Go.Shelf

set_option maxRecDepth 100000 in
set_option maxHeartbeats 1000000 in
theorem masked_any (n : Nat) (m : Int) (w : World) :
    Calls Try.prog 25 #[.int .i64 n, .int .u32 m] w fun e w' => ∃ v l, e = .returned v ∧ (∀ x ∈ l, 0 ≤ x ∧ x < (n : Int)) ∧ l.length ≤ 32 ∧ Mem w.heap.size w w' [rowI 3 v l] := by
  have hM0 := (Mem.start w).nilI 3
  go_enter Try.func25, Try.ntmps25
  go_wp2
  go_loopw [5, 6] (fun v i wr => ∃ (k : Nat) (l : List Int), k ≤ n ∧ k ≤ 32 ∧ l.length ≤ k ∧ i = .int .i64 k ∧ (∀ x ∈ l, 0 ≤ x ∧ x < (n : Int)) ∧ Mem w.heap.size w wr [rowI 3 v l]) (fun _ i _ => n - (intOf i).toNat)
  case atStart => exact ⟨0, [], Nat.zero_le _, by omega, Nat.le_refl _, rfl, by simp, hM0⟩
  case round =>
    obtain ⟨k, l, hk, hk2, hkl, rfl, hl, hM⟩ := hrel
    have Hl := Lib.hid hl
    have HM := Lib.hid hM
    clear hl hM
    by_cases hlt : k < n
    · by_cases hlt2 : k < 32
      · go_wp2_with (at_builtin; refine Mem.wp_appI elemInts rfl (.tmp 22) (.tmp 24) rfl HM.out 0 rfl rfl _ (k : Int) _ _ rfl (by simp) (by omega) ?_; intro ad n1 cp w1 hn1 hM3 hs1 hk1 ha1)
        · go_roundw
          case rel =>
            refine ⟨k + 1, l ++ [(k : Int)], by omega, by omega, by simp; omega, by go_num, ?_, hM3⟩
            intro x hx
            rcases List.mem_append.1 hx with h | h
            · exact Hl.out x h
            · simp at h; subst h; omega
          case measure => simp [intOf]; omega
        · go_roundw
          case rel => exact ⟨k + 1, l, by omega, by omega, by omega, by go_num, Hl.out, HM.out⟩
          case measure => simp [intOf]; omega
      · go_wp2
        go_ret
        exact ⟨_, l, rfl, Hl.out, by omega, HM.out⟩
    · go_wp2
      go_ret
      exact ⟨_, l, rfl, Hl.out, by omega, HM.out⟩
def IsMask (v : Value) : Prop := ∃ m : Int, v = .int .u32 m ∧ 0 ≤ m ∧ m < 4294967296
set_option maxRecDepth 100000 in
open Go.ChangeShapes Go.WideShapes Go.Joins in
theorem open_mask {H : Type} {enc : TypeId × Value → H} {W : World} {base : Nat} {v : Value} {d : DataW H} {p : List MemPlace}
    (hv : Value.okWide Try.prog W .any base 36 v) (h : DataW.Trod enc Try.prog W 0 (fun _ => true) true 36 v d p) : IsMask v := by
  obtain ⟨x, rfl, rfl, rfl, wx⟩ := open_int Try.underlying36 hv h
  have hb := bounds_u32 wx
  exact ⟨_, rfl, by omega, by omega⟩
end Go.Proofs.Ytdmgpiimacnapaa
