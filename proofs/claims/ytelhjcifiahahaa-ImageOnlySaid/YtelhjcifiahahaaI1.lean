/- Graphs as bytes: Num, walked. -/
import Derived.Test.YtelhjcifiahahaaT2
import Derived.Test.YtelhjcifiahahaaI0
import Derived.WalkSpells
import Derived.WalkLawsBesides
namespace Go.Proofs.Ytelhjcifiahahaa
open Go.RowKit

def encY (b : Nat) : List Value := [.int .u8 (b : Int)]
theorem encY_len (b : Nat) : (encY b).length = 1 := rfl
theorem elemY : Elem Try.prog 26 5 1 1 (.int .u8 0) := ⟨by kernel_rfl, info_parts (by kernel_rfl), rfl, by decide⟩
abbrev rowY (v : Value) (l : List Nat) : Ent := rowT 5 1 encY v l
theorem xor_ones (a : Nat) (h : a < 18446744073709551616) : a ^^^ 18446744073709551615 = 18446744073709551615 - a := by
  have h1 : (BitVec.ofNat 64 a ^^^ BitVec.allOnes 64).toNat = (~~~ (BitVec.ofNat 64 a)).toNat := by rw [BitVec.xor_allOnes]
  rw [BitVec.toNat_xor, BitVec.toNat_not, BitVec.toNat_ofNat, BitVec.toNat_allOnes, Nat.mod_eq_of_lt h] at h1
  exact h1
theorem zz_is {n : Int} (h : i64ok n) : bits BinOp.xor IntKind.u64 (IntKind.u64.wrap (IntKind.u64.wrap n * 2)) (IntKind.u64.wrap (n / 9223372036854775808)) = ((zz n : Nat) : Int) := by
  unfold i64ok at h
  unfold zz
  simp only [IntKind.wrap_u64]
  by_cases h0 : 0 ≤ n
  · rw [if_pos h0]
    have e1 : n % 18446744073709551616 * 2 % 18446744073709551616 = (((2 * n).toNat : Nat) : Int) := by omega
    have e2 : n / 9223372036854775808 % 18446744073709551616 = ((0 : Nat) : Int) := by omega
    rw [e1, e2, bits_xor_u64_nat _ _ (by omega) (by omega), Nat.xor_zero]
  · rw [if_neg h0]
    have e1 : n % 18446744073709551616 * 2 % 18446744073709551616 = (((18446744073709551616 + 2 * n).toNat : Nat) : Int) := by omega
    have e2 : n / 9223372036854775808 % 18446744073709551616 = ((18446744073709551615 : Nat) : Int) := by omega
    rw [e1, e2, bits_xor_u64_nat _ _ (by omega) (by omega), xor_ones _ (by omega)]
    omega
theorem or128' : ∀ b : Nat, b < 256 → bits BinOp.or IntKind.u8 (b : Int) 128 = ((b % 128 + 128 : Nat) : Int) := by decide +kernel
theorem or128 (x : Nat) : bits BinOp.or IntKind.u8 (IntKind.u8.wrap (x : Int)) 128 = ((x % 128 + 128 : Nat) : Int) := by
  have e : IntKind.u8.wrap (x : Int) = ((x % 256 : Nat) : Int) := by rw [IntKind.wrap_u8]; omega
  rw [e, or128' _ (by omega)]
  omega
set_option maxRecDepth 100000 in
set_option maxHeartbeats 1000000 in
theorem num_any (n : Int) (w : World) (h : i64ok n) : Calls Try.prog 52 #[.int .i64 n] w fun e w' => ∃ v, e = .returned v ∧ Mem w.heap.size w w' [rowY v (numB (zz n))] := by
  have HM0 := Lib.hid ((Mem.start w).nilT 5 1 encY)
  have HZ := Lib.hid (zz_is h)
  have HZ64 := Lib.hid (zz_lt h)
  have HL := Lib.hid (num_len h)
  go_enter Try.func52, Try.ntmps52
  go_wp2_with fail
  rw [HZ.out]
  go_loopw [3, 4] (fun x b wr => ∃ (xn : Nat) (bv : Value) (bs : List Nat), bv = b ∧ x = .int .u64 (xn : Int) ∧ Mem w.heap.size w wr [rowY bv bs] ∧ bs ++ numB xn = numB (zz n) ∧ xn ≤ zz n) (fun x _ _ => (intOf x).toNat)
  case atStart => exact ⟨zz n, _, [], rfl, rfl, HM0.out, rfl, Nat.le_refl _⟩
  case round =>
    obtain ⟨xn, bv, bs, rfl, rfl, hM, hbs, hle⟩ := hrel
    have hx64 := Nat.lt_of_le_of_lt hle HZ64.out
    have hlen : bs.length ≤ 10 := by have := HL.out; rw [← hbs, List.length_append] at this; omega
    obtain ⟨ax, cx, rfl⟩ : ∃ ax cx, bv = .slice ax bs.length cx := by
      rcases (hM.row 0 rfl).2 with ⟨h1, h2⟩ | ⟨g9, cap9, cur9, h1, _⟩
      · exact ⟨none, 0, by rw [h1, h2]⟩
      · exact ⟨_, _, h1⟩
    obtain ⟨m, hm⟩ : ∃ m, bs.length = m := ⟨_, rfl⟩
    rw [hm] at hM hlen ⊢
    have HM := Lib.hid hM
    have HB := Lib.hid hbs
    have Hm := Lib.hid hm
    have Hlen : Hid (bs.length ≤ 1000000) := Lib.hid (by omega)
    clear hM hbs hm
    by_cases hlt : xn < 128
    · have q1 : decide ((xn : Int) ≥ 128) = false := decide_eq_false (by omega)
      have q2 : decide (128 ≤ xn) = false := decide_eq_false (by omega)
      go_wp2_with (refine Mem.wp_appT elemY rfl (.tmp 22) (.tmp 25) rfl HM.out 0 rfl rfl _ xn #[.int .u8 (xn : Int)] rfl _ _ rfl (by simp) rfl rfl (by decide) Hlen.out ?_; intro ad n7 cp w7 hn7 hM7 hs7 hk7 ha7)
      go_ret
      refine ⟨_, rfl, ?_⟩
      have := HB.out
      rw [numB_lt hlt] at this
      rw [← this]; exact hM7
    · have q1 : decide ((xn : Int) ≥ 128) = true := decide_eq_true (by omega)
      have q2 : decide (128 ≤ xn) = true := decide_eq_true (by omega)
      have Hb := Lib.hid (or128 xn)
      go_wp2_with (refine Mem.wp_appT elemY rfl (.tmp 16) (.tmp 20) rfl HM.out 0 rfl rfl _ (xn % 128 + 128) #[.int .u8 (bits BinOp.or IntKind.u8 (IntKind.u8.wrap (xn : Int)) 128)] (by rw [Hb.out]; rfl) _ _ rfl (by simp) rfl rfl (by decide) Hlen.out ?_; intro ad n7 cp w7 hn7 hM7 hs7 hk7 ha7)
      go_roundw
      case rel => exact ⟨xn / 128, _, bs ++ [xn % 128 + 128], rfl, by simp, hM7, by rw [← HB.out, numB_ge hlt, List.append_assoc]; rfl, by omega⟩
      case measure => simp [intOf]; omega
end Go.Proofs.Ytelhjcifiahahaa
