/- The reference's Fields, walked. -/
import Derived.Test.YtgdodbdipbomfaaAb
namespace Go.Proofs.Ytgdodbdipbomfaa
open Go.RowKit

set_option maxRecDepth 100000 in
set_option maxHeartbeats 1000000 in
theorem rFields_any (v : Value) (ws fs : List Int) (k m : Nat) (n : Int) (w : World) (hw : IsW w v ws) (hn : ws[k]? = some n) (hh : isHead n) (hm : n % 256 = m) (hfl : fs.length = m) (hf : ∀ j x, fs[j]? = some x → ws[k + 1 + j]? = some x) (hsm : ws.length ≤ 256) :
    Calls Try.prog 20 #[v, .int .i64 k] w fun e w' => ∃ r, e = .returned r ∧ Mem w.heap.size w w' [rowW 60 r fs] := by
  have Hw := Lib.hid hw
  have Hf := Lib.hid hf
  have Hfl := Lib.hid hfl
  obtain ⟨b, off, cap, rfl, _, hb, d0, hn64⟩ := hw.at (Below.refl _ _) hn
  have hkl := (List.getElem?_eq_some_iff.1 hn).1
  have hm4 : m ≤ 4 := by have := hh.1; omega
  have hU := rUnhead_yes n w hn64 hh
  rw [headV, hm] at hU
  have HU := Lib.hid hU
  clear hw hn hh hm hfl hf hU
  go_enter Try.func20, Try.ntmps20
  go_wp2_with fail
  refine HU.out.mono ?_
  rintro e w2 ⟨rfl, hb2⟩
  have hM := ((Mem.start w).call hb2).alloc #[.int .i64 m, .bool (n / 256 % 2 == 1), .int .i64 (n / 512 % 8)] 50
  have HM := Lib.hid (hM.nilW 60)
  obtain ⟨bh, hbh⟩ : ∃ bh, w2.heap.size = bh := ⟨_, rfl⟩
  rw [hbh] at HM
  have Hbh := Lib.hid hbh
  clear hM hb2 HU hbh
  go_wp2
  rw [Hbh.out]
  go_loopw [7, 8] (fun r i wr => ∃ j : Nat, j ≤ m ∧ i = .int .i64 ((j : Int) + 1) ∧ Mem w.heap.size w wr [rowW 60 r (fs.take j), ebox bh #[.int .i64 m, .bool (n / 256 % 2 == 1), .int .i64 (n / 512 % 8)] 50]) (fun _ i _ => m + 1 - (intOf i).toNat)
  case atStart => exact ⟨0, Nat.zero_le _, rfl, HM.out⟩
  case round =>
    clear HM
    obtain ⟨j, hj, rfl, hM⟩ := hrel
    have c0 : wr.cell? ⟨bh, 0, none⟩ = some (.int .i64 m) := by have := hM.cell 1 rfl 0; simpa using this
    have z0 : bh < wr.heap.size := (hM.box 1 rfl).2.1
    by_cases hlt : j < m
    · obtain ⟨x, hx⟩ := get_some fs j (by rw [Hfl.out]; exact hlt)
      obtain ⟨b', off', cap', hv, _, hb3, d1, _⟩ := Hw.out.at hM.below (Hf.out j x hx)
      cases hv
      have q1 : (j : Int) + 1 ≤ m := by omega
      have hix : k + 1 + j < ws.length := (List.getElem?_eq_some_iff.1 (Hf.out j x hx)).1
      have d2 : wr.cell? ⟨b, off + (k + (j + 1)), none⟩ = some (.int .u64 x) := by rw [← d1]; congr 2; omega
      have HS := Lib.hid (take_succ_some _ _ _ hx)
      have hln : (fs.take j).length ≤ 1000000 := by rw [List.length_take]; omega
      have HM := Lib.hid hM
      have e1 : (k : Int) + ((j : Int) + 1) = ((k + 1 + j : Nat) : Int) := by omega
      clear hM hx
      go_wp2_with (at_builtin; refine Mem.wp_appW elemWords rfl (.tmp 23) (.tmp 30) rfl HM.out 0 rfl rfl _ x _ _ rfl (by simp) hln ?_; intro ad n1 cp w6 hn1 hM6 hs6 hk6 ha6)
      go_roundw
      case rel => exact ⟨j + 1, by omega, by go_num, hM6.cast (by rw [HS.out]; rfl)⟩
      case measure => simp [intOf]; omega
    · obtain rfl : j = m := by omega
      have q1 : ¬ (j : Int) + 1 ≤ j := by omega
      rw [List.take_of_length_le (by rw [Hfl.out]; exact Nat.le_refl _)] at hM
      have HM := Lib.hid (hM.drop (List.Sublist.cons_cons _ (List.nil_sublist _)))
      clear hM
      go_wp2
      go_ret
      exact ⟨_, rfl, HM.out⟩
end Go.Proofs.Ytgdodbdipbomfaa
