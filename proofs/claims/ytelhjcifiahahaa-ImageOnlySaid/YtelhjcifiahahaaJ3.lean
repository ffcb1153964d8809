/- Graphs out of bytes: lists, walked. -/
import Derived.Test.YtelhjcifiahahaaJ2
namespace Go.Proofs.Ytelhjcifiahahaa
open Go.RowKit

theorem accP_len {α : Type} {one : List Nat → Option (α × List Nat)} : ∀ (m : Nat) (acc : List α) (l : List Nat) {xs : List α} {r : List Nat}, accP one m acc l = some (xs, r) → xs.length = acc.length + m
  | 0, acc, l, xs, r, h => by cases h; rfl
  | m + 1, acc, l, xs, r, h => by
    simp only [accP] at h
    split at h
    · cases h
    · have := accP_len m _ _ h
      rw [this, List.length_append]; simp; omega
theorem accP_all {α : Type} {one : List Nat → Option (α × List Nat)} {p : α → Prop} (hp : ∀ l x r, one l = some (x, r) → p x) : ∀ (m : Nat) (acc : List α) (l : List Nat) {xs : List α} {r : List Nat}, (∀ x ∈ acc, p x) → accP one m acc l = some (xs, r) → ∀ x ∈ xs, p x
  | 0, acc, l, xs, r, ha, h => by cases h; exact ha
  | m + 1, acc, l, xs, r, ha, h => by
    simp only [accP] at h
    split at h
    · cases h
    · rename_i x l1 ho
      refine accP_all hp m _ _ (fun y hy => ?_) h
      rcases List.mem_append.1 hy with hy | hy
      · exact ha y hy
      · simp at hy; subst hy; exact hp _ _ _ ho
def VecSays (w0 w' : World) (rb : Nat) (L' : List Ent) (r : Option (List V × List Nat)) (e : Ending) : Prop :=
  match r with
  | none => Broke e ∧ ∃ v L'', Mem w0.heap.size w0 w' (L'' ++ rdE rb v :: L')
  | some (xs, l) => ∃ vx v, e = .returned vx ∧ IsRest w0 v l ∧ Mem w0.heap.size w0 w' (rowV 64 vx xs :: rdE rb v :: L')
theorem elemValsR : Elem Try.prog 23 64 2 16 (.agg #[.bool false, .int .i64 0]) := ⟨by kernel_rfl, info_parts (by kernel_rfl), rfl, by decide⟩
set_option maxRecDepth 100000 in
set_option maxHeartbeats 1000000 in
theorem readV_any (w0 w : World) (rb most : Nat) (v : Value) (l : List Nat) (L' : List Ent) (hM : Mem w0.heap.size w0 w (rdE rb v :: L')) (hR : IsRest w0 v l) (hmost : most ≤ 100) :
    Calls Try.prog 43 #[.pointer (some ⟨rb, 0, none⟩), .int .i64 (most : Int), .func (.func 44) #[.pointer (some ⟨rb, 0, none⟩)] #[]] w fun e w' => VecSays w0 w' rb L' (listP most valP l) e := by
  have HN := Lib.hid (rnum_any w0 w rb v l L' hM hR)
  obtain ⟨R, hRR⟩ : ∃ R, listP (most : Int) valP l = R := ⟨_, rfl⟩
  rw [hRR]
  unfold listP at hRR
  clear hM hR
  cases hn : numP 10 0 0 l with
  | none =>
    rw [hn] at HN hRR
    have HRR := Lib.hid hRR.symm
    clear hRR hn
    go_enter Try.func43, Try.ntmps43
    go_wp2_with fail
    with_reducible refine HN.out.mono ?_
    rintro e w2 ⟨rfl, v2, hM2⟩
    have HM2 := Lib.hid hM2
    clear hM2
    go_wp2
    rw [HRR.out]
    exact ⟨rfl, rfl, _, [], HM2.out⟩
  | some nl =>
    obtain ⟨n, l1⟩ := nl
    have hn64 := numP_ok _ _ _ _ hn
    rw [hn] at HN hRR
    simp only at hRR
    by_cases hneg : n < 0
    · rw [if_pos (.inl hneg)] at hRR
      have HRR := Lib.hid hRR.symm
      have q := decide_eq_true hneg
      clear hRR hn
      go_enter Try.func43, Try.ntmps43
      go_wp2_with fail
      with_reducible refine HN.out.mono ?_
      rintro e w2 ⟨rfl, v2, _, hM2⟩
      have HM2 := Lib.hid hM2
      clear hM2
      go_wp2
      rw [HRR.out]
      exact ⟨rfl, rfl, _, [], HM2.out⟩
    · by_cases hbig : (most : Int) < n
      · rw [if_pos (.inr hbig)] at hRR
        have HRR := Lib.hid hRR.symm
        have q : decide (n < 0) = false := decide_eq_false hneg
        have q2 : decide (n > (most : Int)) = true := decide_eq_true hbig
        clear hRR hn
        go_enter Try.func43, Try.ntmps43
        go_wp2_with fail
        with_reducible refine HN.out.mono ?_
        rintro e w2 ⟨rfl, v2, _, hM2⟩
        have HM2 := Lib.hid hM2
        clear hM2
        go_wp2
        rw [HRR.out]
        exact ⟨rfl, rfl, _, [], HM2.out⟩
      · rw [if_neg (by omega)] at hRR
        have q : decide (n < 0) = false := decide_eq_false hneg
        have q2 : decide (n > (most : Int)) = false := decide_eq_false hbig
        obtain ⟨N, rfl⟩ : ∃ N : Nat, n = N := ⟨n.toNat, by omega⟩
        rw [Int.toNat_natCast] at hRR
        have q3 : decide ((most : Int) < (N : Int)) = false := decide_eq_false hbig
        have q4 : decide (most < N) = false := decide_eq_false (by omega)
        have hN100 : N ≤ 100 := by omega
        have HRR := Lib.hid hRR
        clear hRR hn hneg hbig
        go_enter Try.func43, Try.ntmps43
        go_wp2_with fail
        with_reducible refine HN.out.mono ?_
        rintro e w2 ⟨rfl, v2, hR2, hM2⟩
        have HM2 := Lib.hid ((hM2.nilV 64).perm (List.Perm.swap _ _ _))
        have HR2 := Lib.hid hR2
        clear hM2 hR2 HN
        go_wp2
        go_loopw [8, 21] (fun o i wr => ∃ (k m : Nat) (ov v : Value) (acc : List V) (l : List Nat), ov = o ∧ i = .int .i64 (k : Int) ∧ k + m = N ∧ acc.length = k ∧ Mem w0.heap.size w0 wr (rdE rb v :: rowV 64 ov acc :: L') ∧ IsRest w0 v l ∧ accP valP m acc l = R) (fun _ i _ => N - (intOf i).toNat)
        case atStart => exact ⟨0, N, _, _, [], _, rfl, rfl, by omega, rfl, HM2.out, HR2.out, HRR.out⟩
        case round =>
          clear HM2 HR2 HRR
          obtain ⟨k, m, ov, v, acc, l, rfl, rfl, hkm, hac, hM, hR, hacc⟩ := hrel
          obtain ⟨ax, mx, cx, rfl⟩ := own_slice (hM.ownV 1 rfl)
          cases m with
          | zero =>
            obtain rfl : k = N := by omega
            have HRR := Lib.hid (show some (acc, l) = R from hacc)
            have HM := Lib.hid (hM.perm (List.Perm.swap _ _ _))
            have HR := Lib.hid hR
            clear hM hR hacc hkm
            go_wp2
            go_ret
            rw [← HRR.out]
            exact ⟨_, _, rfl, HR.out, HM.out⟩
          | succ m =>
            have hlt : k < N := by omega
            have hlti : (k : Int) < (N : Int) := by omega
            have HV := Lib.hid (rvalue_any w0 wr rb v l _ hM hR)
            have Hlen : Hid (acc.length ≤ 1000000) := Lib.hid (by omega)
            have Hac := Lib.hid hac
            have Hkm := Lib.hid hkm
            cases hv : valP l with
            | none =>
              have HRR := Lib.hid (show none = R from by rw [← hacc]; simp only [accP, hv])
              rw [hv] at HV
              clear hM hR hacc hkm hac hv
              go_wp2_with fail
              with_reducible refine HV.out.mono ?_
              rintro e w3 ⟨rfl, v3, hM3⟩
              have HM3 := Lib.hid (hM3.perm (List.Perm.swap _ _ _))
              clear hM3
              go_wp2
              rw [← HRR.out]
              exact ⟨rfl, rfl, _, [_], HM3.out⟩
            | some xl =>
              obtain ⟨x, l1⟩ := xl
              have HRR := Lib.hid (show accP valP m (acc ++ [x]) l1 = R from by rw [← hacc]; simp only [accP, hv])
              rw [hv] at HV
              clear hM hR hacc hkm hac hv
              go_wp2_with fail
              with_reducible refine HV.out.mono ?_
              rintro e w3 ⟨rfl, v3, hR3, hM3⟩
              have HM3 := Lib.hid hM3
              have HR3 := Lib.hid hR3
              clear hM3 hR3 HV
              go_wp2_with (refine Mem.wp_appV elemValsR rfl (.tmp 23) (.tmp 26) rfl HM3.out 1 rfl rfl _ x _ _ rfl rfl Hlen.out ?_; intro ad n7 cp w7 hn7 hM7 hs7 hk7 ha7)
              go_roundw
              case rel => exact ⟨k + 1, m, _, _, acc ++ [x], _, rfl, by go_num, by have := Hkm.out; omega, by rw [List.length_append, Hac.out]; rfl, hM7, HR3.out, HRR.out⟩
              case measure => simp [intOf]; omega
end Go.Proofs.Ytelhjcifiahahaa
