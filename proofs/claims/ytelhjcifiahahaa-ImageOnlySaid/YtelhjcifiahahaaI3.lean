/- Graphs as bytes: lists, walked. -/
import Derived.Test.YtelhjcifiahahaaI2
import Derived.Deep.CutBlock
namespace Go.Proofs.Ytelhjcifiahahaa
open Go.RowKit

theorem flat_take {α : Type} (f : α → List Nat) {l : List α} {k : Nat} {x : α} (h : l[k]? = some x) : (l.take (k + 1)).flatMap f = (l.take k).flatMap f ++ f x := by
  rw [take_succ_some l k x h, List.flatMap_append]; simp
theorem flat_le {α : Type} (f : α → List Nat) (c : Nat) (l : List α) (k : Nat) (h : ∀ x ∈ l, (f x).length ≤ c) : ((l.take k).flatMap f).length ≤ l.length * c := by
  have h1 := flatMap_len f c (l.take k) fun x hx => h x (List.mem_of_mem_take hx)
  have h2 : (l.take k).length ≤ l.length := by rw [List.length_take]; omega
  exact Nat.le_trans h1 (Nat.mul_le_mul_right c h2)
set_option maxRecDepth 100000 in
set_option maxHeartbeats 1000000 in
theorem listV_any (w0 w : World) (b : Value) (bs : List Nat) (lv : Value) (l : List V) (L' : List Ent) (hM : Mem w0.heap.size w0 w (rowY b bs :: L')) (hV : IsVals w0 lv l) (hl : l.length ≤ 1000) (hb : bs.length ≤ 50000) :
    Calls Try.prog 36 #[b, lv, .func (.func 37) #[] #[]] w fun e w' => ∃ b', e = .returned b' ∧ Mem w0.heap.size w0 w' (rowY b' (bs ++ listB valB l) :: L') := by
  have HV := Lib.hid hV
  obtain ⟨al, cl, rfl, hlm⟩ := hV.slice
  have HN := Lib.hid (num_any (l.length : Int) w (i64_len (by omega)))
  have hnl := num_len (i64_len (l := l) (by omega))
  have hvl : ∀ x ∈ l, (valB x).length ≤ 11 := fun x hx => by
    obtain ⟨k, hk⟩ := List.mem_iff_getElem?.1 hx
    obtain ⟨_, _, _, _, _, _, _, _, h⟩ := hV.at (Below.refl _ _) hk
    exact valB_len h
  have HL := Lib.hid (fun k => flat_le valB 11 l k hvl)
  obtain ⟨ab, mb, cb, rfl⟩ := own_slice (hM.row 0 rfl)
  have HM := Lib.hid hM
  clear hM hV hvl
  go_enter Try.func36, Try.ntmps36
  go_wp2_with fail
  with_reducible refine HN.out.mono ?_
  rintro e w2 ⟨v2, rfl, hm2⟩
  have hM2 := HM.out.callMem hm2
  have HI2 := Lib.hid (hM2.isTup 0 rfl encY_len (by omega))
  have HM2 := Lib.hid hM2
  clear hm2 hM2 HN HM
  go_wp2_with (refine Mem.wp_appTl elemY encY_len encY_one rfl (.tmp 9) (.tmp 12) rfl HM2.out 1 rfl rfl rfl HI2.out (by omega) (by decide) ?_; intro v7 w7 hM7 hs7 hk7)
  have hM8 : Mem w0.heap.size w0 w7 (rowY v7 (bs ++ numB (zz l.length) ++ (l.take 0).flatMap valB) :: L') := by
    rw [List.take_zero, List.flatMap_nil, List.append_nil]
    exact (show Mem w0.heap.size w0 w7 (_ :: rowY v7 _ :: L') from hM7).drop (List.sublist_cons_self _ _)
  have HM8 := Lib.hid hM8
  clear hM7 hM8 hk7 HM2 HI2
  go_loopw [0, 16] (fun bv i wr => ∃ (k : Nat) (bw : Value), bw = bv ∧ k ≤ l.length ∧ i = .int .i64 (k : Int) ∧ Mem w0.heap.size w0 wr (rowY bw (bs ++ numB (zz l.length) ++ (l.take k).flatMap valB) :: L')) (fun _ i _ => l.length - (intOf i).toNat)
  case atStart => exact ⟨0, _, rfl, Nat.zero_le _, rfl, HM8.out⟩
  case round =>
    clear HM8
    obtain ⟨k, bw, rfl, hk, rfl, hM⟩ := hrel
    by_cases hlt : k < l.length
    · obtain ⟨x, hx⟩ := get_some l k hlt
      obtain ⟨bl, ol, cl2, hv, _, z1, d0, d1, h64⟩ := HV.out.at hM.below hx
      cases hv
      have hlen : (bs ++ numB (zz l.length) ++ (l.take k).flatMap valB).length ≤ 100000 := by
        have := HL.out k
        simp only [List.length_append]; omega
      obtain ⟨cur, hcur⟩ : ∃ cur, bs ++ numB (zz l.length) ++ (l.take k).flatMap valB = cur := ⟨_, rfl⟩
      have hnext := flat_take valB hx
      have hn2 : cur ++ valB x = bs ++ numB (zz l.length) ++ (l.take (k + 1)).flatMap valB := by rw [hnext, ← hcur, List.append_assoc]
      rw [hcur] at hM hlen
      obtain ⟨ab, mb, cb, rfl⟩ := own_slice (hM.row 0 rfl)
      have hMa := hM.alloc_ (.cells #[.bool x.ref, .int .i64 x.n] 64)
      have HA := Lib.hid (value_any _ _ _ _ cur x.ref x.n L' hMa h64 hlen)
      have Hn2 := Lib.hid hn2
      clear hM hMa hcur hnext hn2 hx
      go_wp2_with fail
      with_reducible refine HA.out.mono ?_
      rintro e w3 ⟨b3, rfl, hM3⟩
      rw [show (⟨x.ref, x.n⟩ : V) = x from rfl, Hn2.out] at hM3
      have HM3 := Lib.hid hM3
      clear hM3 HA
      go_wp2
      go_roundw
      case rel => exact ⟨k + 1, _, rfl, by omega, by go_num, HM3.out⟩
      case measure => simp [intOf]; omega
    · obtain rfl : k = l.length := by omega
      rw [List.take_length] at hM
      have e : bs ++ numB (zz l.length) ++ l.flatMap valB = bs ++ listB valB l := by unfold listB; rw [List.append_assoc]
      rw [e] at hM
      obtain ⟨ab, mb, cb, rfl⟩ := own_slice (hM.row 0 rfl)
      have HM := Lib.hid hM
      clear hM e
      go_wp2
      go_ret
      exact ⟨_, rfl, HM.out⟩
end Go.Proofs.Ytelhjcifiahahaa
