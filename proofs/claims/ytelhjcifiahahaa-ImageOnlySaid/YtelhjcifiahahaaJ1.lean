/- Graphs out of bytes: a number, walked. -/
import Derived.Test.YtelhjcifiahahaaJ0
import Derived.Deep.CutBlock
namespace Go.Proofs.Ytelhjcifiahahaa
open Go.RowKit

def orI (X : Int) (k c : Nat) : Int := bits BinOp.or IntKind.u64 X (IntKind.u64.wrap (IntKind.u64.wrap (bits BinOp.and IntKind.u8 (c : Int) 127) * 2 ^ (7 * k)))
def endI (Y : Int) : Int := bits BinOp.xor IntKind.i64 (wrap64 (Y / 2)) (wrap64 (-wrap64 (bits BinOp.and IntKind.u64 Y 1)))
theorem endI_ok (Y : Int) : i64ok (endI Y) := ⟨bits_lo_i64 _ _ _, bits_hi_i64 _ _ _⟩
/-- A number, out of at most f bytes more. -/
def numP : Nat → Nat → Int → List Nat → Option (Int × List Nat)
  | 0, _, _, _ => none
  | _ + 1, _, _, [] => none
  | f + 1, k, X, c :: l => if c < 128 then some (endI (orI X k c), l) else numP f (k + 1) (orI X k c) l
def NumSays (w0 w' : World) (rb : Nat) (L' : List Ent) (r : Option (Int × List Nat)) (e : Ending) : Prop :=
  match r with
  | none => Broke e ∧ ∃ v, Mem w0.heap.size w0 w' (rdE rb v :: L')
  | some (n, l) => e = .returned (.int .i64 n) ∧ ∃ v, IsRest w0 v l ∧ Mem w0.heap.size w0 w' (rdE rb v :: L')
set_option maxRecDepth 100000 in
set_option maxHeartbeats 1000000 in
theorem rnum_any (w0 w : World) (rb : Nat) (v : Value) (l : List Nat) (L' : List Ent) (hM : Mem w0.heap.size w0 w (rdE rb v :: L')) (hR : IsRest w0 v l) :
    Calls Try.prog 53 #[.pointer (some ⟨rb, 0, none⟩)] w fun e w' => NumSays w0 w' rb L' (numP 10 0 0 l) e := by
  have HM := Lib.hid hM
  have HR := Lib.hid hR
  obtain ⟨r, hr⟩ : ∃ r, numP 10 0 0 l = r := ⟨_, rfl⟩
  have Hr := Lib.hid hr
  rw [hr]
  clear hM hR hr
  go_enter Try.func53, Try.ntmps53
  go_wp2
  go_loopw [3, 6] (fun x i wr => ∃ (f k : Nat) (X : Int) (v : Value) (l : List Nat), f + k = 10 ∧ i = .int .i64 (k : Int) ∧ x = .int .u64 X ∧ Mem w0.heap.size w0 wr (rdE rb v :: L') ∧ IsRest w0 v l ∧ numP f k X l = r) (fun _ i _ => 10 - (intOf i).toNat)
  case atStart => exact ⟨10, 0, 0, _, _, rfl, rfl, rfl, HM.out, HR.out, Hr.out⟩
  case round =>
    clear HM HR Hr
    obtain ⟨f, k, X, v, l, hk, rfl, rfl, hM, hR, hr⟩ := hrel
    have HM := Lib.hid hM
    cases f with
    | zero =>
      obtain rfl : k = 10 := by omega
      have hr2 : r = none := by rw [← hr]; rfl
      have Hr := Lib.hid hr2
      clear hr hr2 hM hR hk
      go_wp2
      rw [Hr.out]
      exact ⟨rfl, rfl, _, HM.out⟩
    | succ f =>
      have hlt : k < 10 := by omega
      have HN := Lib.hid (next_any w0 wr rb v l L' hM hR)
      cases l with
      | nil =>
        have hr2 : r = none := by rw [← hr]; rfl
        have Hr := Lib.hid hr2
        clear hr hr2 hM hR hk
        go_wp2_with fail
        with_reducible refine HN.out.mono ?_
        rintro e w2 ⟨rfl, v2, hM2⟩
        have HM2 := Lib.hid hM2
        clear hM2
        go_wp2
        rw [Hr.out]
        exact ⟨rfl, rfl, _, HM2.out⟩
      | cons c l' =>
        have hr2 : r = if c < 128 then some (endI (orI X k c), l') else numP f (k + 1) (orI X k c) l' := by rw [← hr]; rfl
        have Hr := Lib.hid hr2
        have Hk := Lib.hid hk
        clear hr hr2 hM hR hk
        go_wp2_with fail
        with_reducible refine HN.out.mono ?_
        rintro e w2 ⟨rfl, v2, hR2, hM2⟩
        have HM2 := Lib.hid hM2
        have HR2 := Lib.hid hR2
        clear hM2 hR2
        by_cases hc : c < 128
        · have q : decide ((c : Int) < 128) = true := decide_eq_true (by omega)
          have q2 : decide (c < 128) = true := decide_eq_true (by omega)
          go_wp2
          go_ret
          rw [Hr.out, if_pos hc]
          exact ⟨rfl, _, HR2.out, HM2.out⟩
        · have q : decide ((c : Int) < 128) = false := decide_eq_false (by omega)
          have q2 : decide (c < 128) = false := decide_eq_false (by omega)
          go_wp2
          go_roundw
          case rel => exact ⟨f, k + 1, orI X k c, _, _, by have := Hk.out; omega, by go_num, rfl, HM2.out, HR2.out, by rw [Hr.out, if_neg hc]⟩
          case measure => simp [intOf]; omega
/-! A number's bytes are read as the number. -/
theorem and127' : ∀ b : Nat, b < 256 → bits BinOp.and IntKind.u8 (b : Int) 127 = ((b % 128 : Nat) : Int) := by decide +kernel
theorem orI_is {X k c : Nat} (hc : c < 256) (hX : X < 2 ^ (7 * k)) (hs : X + c % 128 * 2 ^ (7 * k) < 18446744073709551616) : orI (X : Int) k c = ((X + c % 128 * 2 ^ (7 * k) : Nat) : Int) := by
  unfold orI
  rw [and127' c hc]
  have e1 : IntKind.u64.wrap ((c % 128 : Nat) : Int) = ((c % 128 : Nat) : Int) := IntWalk.u64_in _ (by omega)
  have hcast : (((c % 128 : Nat) : Int) * 2 ^ (7 * k)) = ((c % 128 * 2 ^ (7 * k) : Nat) : Int) := by simp
  have e2 : IntKind.u64.wrap (((c % 128 : Nat) : Int) * 2 ^ (7 * k)) = ((c % 128 * 2 ^ (7 * k) : Nat) : Int) := by rw [hcast]; exact IntWalk.u64_in _ (by omega)
  rw [e1, e2]
  have h1 : (X : Int) < 2 ^ (7 * k) := by exact_mod_cast hX
  have h2 : ((c % 128 * 2 ^ (7 * k) : Nat) : Int) % 2 ^ (7 * k) = 0 := by
    have : (c % 128 * 2 ^ (7 * k)) % 2 ^ (7 * k) = 0 := Nat.mul_mod_left _ _
    exact_mod_cast this
  rw [bits_join_low .u64 64 (by decide) (fun n a b => IntWalk.u64_in n (by omega)) (7 * k) _ _ (by omega) h1 (by omega) (by omega) h2 (by omega)]
  omega
theorem numP_is (y : Nat) (hy : y < 18446744073709551616) (r : List Nat) : ∀ (f k : Nat), f + k = 10 → 0 < f → numP f k ((y % 2 ^ (7 * k) : Nat) : Int) (numB (y / 2 ^ (7 * k)) ++ r) = some (endI (y : Int), r)
  | 0, _, _, h => absurd h (Nat.lt_irrefl _)
  | f + 1, k, hk, _ => by
    have hp : 0 < 2 ^ (7 * k) := Nat.two_pow_pos _
    obtain ⟨P, hP⟩ : ∃ P, 2 ^ (7 * k) = P := ⟨_, rfl⟩
    have hdm := Nat.div_add_mod y P
    have hml := Nat.mod_lt y (show 0 < P by omega)
    obtain ⟨z, hz⟩ : ∃ z, y / P = z := ⟨_, rfl⟩
    obtain ⟨X, hX⟩ : ∃ X, y % P = X := ⟨_, rfl⟩
    rw [hz, hX] at hdm
    rw [hX] at hml
    by_cases h1 : z < 128
    · have ho := orI_is (X := X) (k := k) (c := z) (by omega) (by rw [hP]; exact hml) (by rw [hP, Nat.mod_eq_of_lt h1, Nat.mul_comm]; omega)
      rw [hP, Nat.mod_eq_of_lt h1, Nat.mul_comm, Nat.add_comm, hdm] at ho
      rw [hP, hz, hX, numB_lt h1]
      show (if z < 128 then some (endI (orI (X : Int) k z), r) else _) = _
      rw [if_pos h1, ho]
    · have hmod : (z % 128 + 128) % 128 = z % 128 := by omega
      have hzm : P * (z % 128) ≤ P * z := Nat.mul_le_mul_left P (Nat.mod_le z 128)
      have ho := orI_is (X := X) (k := k) (c := z % 128 + 128) (by omega) (by rw [hP]; exact hml) (by rw [hP, hmod, Nat.mul_comm]; omega)
      rw [hP, hmod] at ho
      have hP2 : 2 ^ (7 * (k + 1)) = P * 128 := by rw [Nat.mul_add, Nat.pow_add, hP]
      have hz2 : y / 2 ^ (7 * (k + 1)) = z / 128 := by rw [hP2, ← Nat.div_div_eq_div_mul, hz]
      have hX2 : y % 2 ^ (7 * (k + 1)) = X + z % 128 * P := by rw [hP2, Nat.mod_mul, hX, hz, Nat.mul_comm]
      have hf : 0 < f := by
        rcases Nat.eq_zero_or_pos f with h0 | h0
        · subst h0
          obtain rfl : k = 9 := by omega
          have : P = 9223372036854775808 := by rw [← hP]
          subst this
          omega
        · exact h0
      have ih := numP_is y hy r f (k + 1) (by omega) hf
      rw [hz2, hX2] at ih
      rw [hP, hz, hX, numB_ge h1]
      show (if z % 128 + 128 < 128 then some (endI (orI (X : Int) k (z % 128 + 128)), numB (z / 128) ++ r) else numP f (k + 1) (orI (X : Int) k (z % 128 + 128)) (numB (z / 128) ++ r)) = _
      rw [if_neg (by omega), ho]
      exact ih
theorem and1' (n : Nat) (h : n < 18446744073709551616) : bits BinOp.and IntKind.u64 (n : Int) 1 = ((n % 2 : Nat) : Int) := by
  have := bits_mask .u64 64 (by decide) (fun n a b => IntWalk.u64_in n (by omega)) 1 (by decide) (n : Int) (by omega) (by omega)
  simp only [Int.pow_one] at this
  rw [show ((2 : Int) - 1) = 1 from rfl] at this
  rw [this]; omega
theorem xor_zero_i (a : Nat) (h : a < 9223372036854775808) : bits BinOp.xor IntKind.i64 (a : Int) 0 = (a : Int) := by
  show IntKind.i64.wrap ((BitVec.ofInt 64 (a : Int) ^^^ BitVec.ofInt 64 0).toNat : Int) = _
  rw [show BitVec.ofInt 64 0 = 0#64 from rfl, BitVec.xor_zero, BitVec.ofInt_natCast, BitVec.toNat_ofNat, Nat.mod_eq_of_lt (by omega)]
  rw [IntKind.wrap_i64]; omega
theorem xor_ones_i (a : Nat) (h : a < 9223372036854775808) : bits BinOp.xor IntKind.i64 (a : Int) (-1) = -(a : Int) - 1 := by
  show IntKind.i64.wrap ((BitVec.ofInt 64 (a : Int) ^^^ BitVec.ofInt 64 (-1)).toNat : Int) = _
  rw [show BitVec.ofInt 64 (-1) = BitVec.allOnes 64 from rfl, BitVec.xor_allOnes, BitVec.toNat_not, BitVec.ofInt_natCast, BitVec.toNat_ofNat, Nat.mod_eq_of_lt (by omega)]
  rw [IntKind.wrap_i64]; omega
theorem endI_is {n : Int} (h : i64ok n) : endI (zz n : Int) = n := by
  have h64 := zz_lt h
  unfold endI
  rw [and1' _ h64]
  unfold i64ok at h
  unfold zz at h64 ⊢
  by_cases h0 : 0 ≤ n
  · rw [if_pos h0] at h64 ⊢
    have e0 : (2 * n).toNat % 2 = 0 := by omega
    have e1 : wrap64 ((((2 * n).toNat : Nat) : Int) / 2) = ((n.toNat : Nat) : Int) := by simp only [wrap64]; omega
    rw [e0, e1]
    rw [show wrap64 (-wrap64 ((0 : Nat) : Int)) = 0 by decide +kernel, xor_zero_i _ (by omega)]
    omega
  · rw [if_neg h0] at h64 ⊢
    have e0 : (-2 * n - 1).toNat % 2 = 1 := by omega
    have e1 : wrap64 ((((-2 * n - 1).toNat : Nat) : Int) / 2) = (((-n - 1).toNat : Nat) : Int) := by simp only [wrap64]; omega
    rw [e0, e1]
    rw [show wrap64 (-wrap64 ((1 : Nat) : Int)) = -1 by decide +kernel, xor_ones_i _ (by omega)]
    omega
theorem num_read {n : Int} (h : i64ok n) (r : List Nat) : numP 10 0 0 (numB (zz n) ++ r) = some (n, r) := by
  have := numP_is (zz n) (zz_lt h) r 10 0 rfl (by decide)
  simp only [Nat.mul_zero, Nat.pow_zero, Nat.mod_one, Nat.div_one] at this
  rw [endI_is h] at this
  exact this
theorem numP_ok : ∀ (f k : Nat) (X : Int) (l : List Nat) {n : Int} {r : List Nat}, numP f k X l = some (n, r) → i64ok n
  | 0, _, _, _, _, _, h => by cases h
  | _ + 1, _, _, [], _, _, h => by cases h
  | f + 1, k, X, c :: l, n, r, h => by
    simp only [numP] at h
    split at h
    · cases h; exact endI_ok _
    · exact numP_ok f (k + 1) _ l h
end Go.Proofs.Ytelhjcifiahahaa
