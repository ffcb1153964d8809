/- Graphs as bytes: objects, Sum, Put, walked. -/
import Derived.Test.YtelhjcifiahahaaI3
import Derived.Test.YtelhjcifiahahaaGc
namespace Go.Proofs.Ytelhjcifiahahaa
open Go.RowKit

set_option maxRecDepth 100000 in
set_option maxHeartbeats 1000000 in
theorem obj_any (w0 w : World) (b : Value) (bs : List Nat) (u : Value) (o : List V) (L' : List Ent) (hM : Mem w0.heap.size w0 w (rowY b bs :: L')) (hV : IsVals w0 u o) (hl : o.length ≤ 1000) (hb : bs.length ≤ 49000) :
    Calls Try.prog 39 #[b, .agg #[u]] w fun e w' => ∃ b', e = .returned b' ∧ Mem w0.heap.size w0 w' (rowY b' (bs ++ objB o) :: L') := by
  have HA := Lib.hid (listV_any w0 (w.alloc (.cells #[u] 43)) b bs u o L' (hM.alloc_ _) hV hl (by omega))
  obtain ⟨ab, mb, cb, rfl⟩ := own_slice (hM.row 0 rfl)
  clear hM hV
  go_enter Try.func39, Try.ntmps39
  go_wp2_with fail
  with_reducible refine HA.out.mono ?_
  rintro e w3 ⟨b3, rfl, hM3⟩
  have HM3 := Lib.hid hM3
  clear hM3 HA
  go_wp2
  go_ret
  exact ⟨_, rfl, HM3.out⟩
set_option maxRecDepth 100000 in
set_option maxHeartbeats 1000000 in
theorem listO_any (w0 w : World) (b : Value) (bs : List Nat) (lv : Value) (l : List (List V)) (L' : List Ent) (hM : Mem w0.heap.size w0 w (rowY b bs :: L')) (hV : IsObjs w0 lv l) (hl : l.length ≤ 100) (hol : ∀ o ∈ l, o.length ≤ 10) (hb : bs.length ≤ 10000) :
    Calls Try.prog 38 #[b, lv, .func (.func 39) #[] #[]] w fun e w' => ∃ b', e = .returned b' ∧ Mem w0.heap.size w0 w' (rowY b' (bs ++ listB objB l) :: L') := by
  have HV := Lib.hid hV
  obtain ⟨al, cl, rfl, hlm⟩ := hV.slice
  have HN := Lib.hid (num_any (l.length : Int) w (i64_len (by omega)))
  have hnl := num_len (i64_len (l := l) (by omega))
  have hvl : ∀ x ∈ l, (objB x).length ≤ 120 := fun x hx => by
    obtain ⟨k, hk⟩ := List.mem_iff_getElem?.1 hx
    obtain ⟨_, _, _, _, _, _, _, _, h⟩ := hV.at (Below.refl _ _) hk
    have h3 := listB_len valB 11 x (fun v hv => by
      obtain ⟨j, hj⟩ := List.mem_iff_getElem?.1 hv
      obtain ⟨_, _, _, _, _, _, _, _, h9⟩ := h.at (Below.refl _ _) hj
      exact valB_len h9) (by have := hol x hx; omega)
    have := hol x hx
    unfold objB; omega
  have HL := Lib.hid (fun k => flat_le objB 120 l k hvl)
  have HO := Lib.hid hol
  obtain ⟨ab, mb, cb, rfl⟩ := own_slice (hM.row 0 rfl)
  have HM := Lib.hid hM
  clear hM hV hvl hol
  go_enter Try.func38, Try.ntmps38
  go_wp2_with fail
  with_reducible refine HN.out.mono ?_
  rintro e w2 ⟨v2, rfl, hm2⟩
  have hM2 := HM.out.callMem hm2
  have HI2 := Lib.hid (hM2.isTup 0 rfl encY_len (by omega))
  have HM2 := Lib.hid hM2
  clear hm2 hM2 HN HM
  go_wp2_with (refine Mem.wp_appTl elemY encY_len encY_one rfl (.tmp 9) (.tmp 12) rfl HM2.out 1 rfl rfl rfl HI2.out (by omega) (by decide) ?_; intro v7 w7 hM7 hs7 hk7)
  have hM8 : Mem w0.heap.size w0 w7 (rowY v7 (bs ++ numB (zz l.length) ++ (l.take 0).flatMap objB) :: L') := by
    rw [List.take_zero, List.flatMap_nil, List.append_nil]
    exact (show Mem w0.heap.size w0 w7 (_ :: rowY v7 _ :: L') from hM7).drop (List.sublist_cons_self _ _)
  have HM8 := Lib.hid hM8
  clear hM7 hM8 hk7 HM2 HI2
  go_loopw [0, 16] (fun bv i wr => ∃ (k : Nat) (bw : Value), bw = bv ∧ k ≤ l.length ∧ i = .int .i64 (k : Int) ∧ Mem w0.heap.size w0 wr (rowY bw (bs ++ numB (zz l.length) ++ (l.take k).flatMap objB) :: L')) (fun _ i _ => l.length - (intOf i).toNat)
  case atStart => exact ⟨0, _, rfl, Nat.zero_le _, rfl, HM8.out⟩
  case round =>
    clear HM8
    obtain ⟨k, bw, rfl, hk, rfl, hM⟩ := hrel
    by_cases hlt : k < l.length
    · obtain ⟨x, hx⟩ := get_some l k hlt
      obtain ⟨bl, ol, cl2, u, hv, _, z1, d0, hu⟩ := HV.out.at hM.below hx
      cases hv
      obtain ⟨au, cu, rfl, _⟩ := hu.slice
      have hlen : (bs ++ numB (zz l.length) ++ (l.take k).flatMap objB).length ≤ 49000 := by
        have := HL.out k
        simp only [List.length_append]; omega
      obtain ⟨cur, hcur⟩ : ∃ cur, bs ++ numB (zz l.length) ++ (l.take k).flatMap objB = cur := ⟨_, rfl⟩
      have hnext := flat_take objB hx
      have hn2 : cur ++ objB x = bs ++ numB (zz l.length) ++ (l.take (k + 1)).flatMap objB := by rw [hnext, ← hcur, List.append_assoc]
      rw [hcur] at hM hlen
      obtain ⟨ab, mb, cb, rfl⟩ := own_slice (hM.row 0 rfl)
      have hMa := hM.alloc_ (.cells #[.slice au x.length cu] 43)
      have HA := Lib.hid (obj_any _ _ _ cur _ x L' hMa hu (by have := HO.out x (List.mem_of_getElem? hx); omega) hlen)
      have Hn2 := Lib.hid hn2
      clear hM hMa hcur hnext hn2 hx hu
      go_wp2_with fail
      with_reducible refine HA.out.mono ?_
      rintro e w3 ⟨b3, rfl, hM3⟩
      rw [Hn2.out] at hM3
      have HM3 := Lib.hid hM3
      clear hM3 HA
      go_wp2
      go_roundw
      case rel => exact ⟨k + 1, _, rfl, by omega, by go_num, HM3.out⟩
      case measure => simp [intOf]; omega
    · obtain rfl : k = l.length := by omega
      rw [List.take_length] at hM
      have e : bs ++ numB (zz l.length) ++ l.flatMap objB = bs ++ listB objB l := by unfold listB; rw [List.append_assoc]
      rw [e] at hM
      obtain ⟨ab, mb, cb, rfl⟩ := own_slice (hM.row 0 rfl)
      have HM := Lib.hid hM
      clear hM e
      go_wp2
      go_ret
      exact ⟨_, rfl, HM.out⟩
theorem drop_at {l : List Nat} {i x : Nat} (h : l[i]? = some x) : l.drop i = x :: l.drop (i + 1) := by
  obtain ⟨h1, h2⟩ := List.getElem?_eq_some_iff.1 h
  rw [List.drop_eq_getElem_cons h1, h2]
set_option maxRecDepth 100000 in
set_option maxHeartbeats 1000000 in
theorem sum_any (v : Value) (l : List Nat) (w : World) (hl : IsTup 1 encY w v l) (hb : ∀ x ∈ l, x < 256) :
    Calls Try.prog 24 #[v] w fun e w' => e = .returned (.int .i64 (a0 l : Int)) ∧ w = w' := by
  have Hl := Lib.hid hl
  obtain ⟨al, cl, rfl, hlm⟩ := hl.slice
  clear hl
  go_enter Try.func24, Try.ntmps24
  go_wp2
  go_loopw [3, 4, 5] (fun s a i wr => ∃ k : Nat, k ≤ l.length ∧ i = .int .i64 ((k : Int) - 1) ∧ s = .int .i64 (s0 (l.drop k) : Int) ∧ a = .int .i64 (a0 (l.drop k) : Int) ∧ w = wr) (fun _ _ i _ => ((intOf i) + 1).toNat)
  case atStart =>
    refine ⟨l.length, Nat.le_refl _, rfl, ?_, ?_, rfl⟩
    · rw [List.drop_length]; rfl
    · rw [List.drop_length]; rfl
  case round =>
    obtain ⟨k, hk, rfl, rfl, rfl, rfl⟩ := hrel
    by_cases h0 : k = 0
    · subst h0
      go_wp2
      go_ret
      exact ⟨rfl, rfl⟩
    · obtain ⟨j, rfl⟩ : ∃ j, k = j + 1 := ⟨k - 1, by omega⟩
      obtain ⟨x, hx⟩ := get_some l j (by omega)
      obtain ⟨bl, ol, cl2, hv, _, z1, hc⟩ := Hl.out.at (Below.refl _ _) hx
      cases hv
      have d0 := hc 0 _ rfl
      rw [Nat.add_zero, Nat.mul_one] at d0
      have hx256 := hb x (List.mem_of_getElem? hx)
      have e := drop_at hx
      have hs1 := s0_lt (l.drop (j + 1))
      have ha1 := a0_lt (l.drop (j + 1))
      have hs2 := s0_lt (l.drop j)
      have es : s0 (l.drop j) = (s0 (l.drop (j + 1)) + x) % 65521 := by rw [e]; rfl
      have ea : a0 (l.drop j) = (a0 (l.drop (j + 1)) + s0 (l.drop j)) % 65521 := by rw [e]; rfl
      obtain ⟨S, hS⟩ : ∃ S, s0 (l.drop (j + 1)) = S := ⟨_, rfl⟩
      obtain ⟨A, hA⟩ : ∃ A, a0 (l.drop (j + 1)) = A := ⟨_, rfl⟩
      rw [hS] at hs1 es ⊢
      rw [hA] at ha1 ea ⊢
      have Es := Lib.hid es
      have Ea := Lib.hid ea
      have j1 : ((j + 1 : Nat) : Int) - 1 = (j : Int) := by omega
      rw [j1]
      have j0 : (0 : Int) ≤ (j : Int) := by omega
      have j2 : (j : Int) < (l.length : Int) := by omega
      have j3 : decide ((j : Int) ≥ 0) = true := decide_eq_true j0
      clear e hc hx es ea hs2 hS hA j1
      go_wp2
      go_roundw
      case rel => exact ⟨j, by omega, rfl, congrArg (Value.int .i64) (by rw [Es.out]; omega), congrArg (Value.int .i64) (by rw [Ea.out, Es.out]; omega), trivial⟩
      case measure => simp [intOf]
end Go.Proofs.Ytelhjcifiahahaa
