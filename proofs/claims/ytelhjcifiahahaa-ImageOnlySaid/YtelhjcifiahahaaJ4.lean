/- Graphs out of bytes: objects, walked. -/
import Derived.Test.YtelhjcifiahahaaJ3
namespace Go.Proofs.Ytelhjcifiahahaa
open Go.RowKit

def ObjSays (w0 w' : World) (rb : Nat) (L' : List Ent) (r : Option (List V × List Nat)) (e : Ending) : Prop :=
  match r with
  | none => Broke e ∧ ∃ v L'', Mem w0.heap.size w0 w' (L'' ++ rdE rb v :: L')
  | some (xs, l) => ∃ vx v, e = .returned (.agg #[vx]) ∧ IsRest w0 v l ∧ Mem w0.heap.size w0 w' (rowV 64 vx xs :: rdE rb v :: L')
set_option maxRecDepth 100000 in
set_option maxHeartbeats 1000000 in
theorem robject_any (w0 w : World) (rb : Nat) (v : Value) (l : List Nat) (L' : List Ent) (hM : Mem w0.heap.size w0 w (rdE rb v :: L')) (hR : IsRest w0 v l) :
    Calls Try.prog 46 #[.pointer (some ⟨rb, 0, none⟩)] w fun e w' => ObjSays w0 w' rb L' (objP l) e := by
  have hmf : ∀ (fn : Fn) (first cap : Array Value) (w : World), (Instr.makeFunc fn first cap).run Try.prog w = .ok (.func fn first cap) w := fun _ _ _ _ => rfl
  have hMa := (hM.alloc #[.slice none 0 0] 43).perm (List.Perm.swap _ _ _)
  obtain ⟨W, hW⟩ : ∃ W, w.alloc (.cells #[.slice none 0 0] 43) = W := ⟨_, rfl⟩
  obtain ⟨bo, hbo⟩ : ∃ bo, w.heap.size = bo := ⟨_, rfl⟩
  rw [hW, hbo] at hMa
  have HV : Hid (Calls Try.prog 43 #[.pointer (some ⟨rb, 0, none⟩), .int .i64 4, .func (.func 44) #[.pointer (some ⟨rb, 0, none⟩)] #[]] W fun e w' => VecSays w0 w' rb (ebox bo #[.slice none 0 0] 43 :: L') (listP (4 : Nat) valP l) e) := Lib.hid (readV_any w0 W rb 4 v l _ hMa hR (by omega))
  have HW := Lib.hid hW
  have Hbo := Lib.hid hbo
  obtain ⟨R, hRR⟩ : ∃ R, objP l = R := ⟨_, rfl⟩
  rw [hRR]
  have HRR := Lib.hid (show listP (4 : Nat) valP l = R from hRR)
  rw [HRR.out] at HV
  clear hM hMa hW hbo hR hRR
  cases R with
  | none =>
    go_enter Try.func46, Try.ntmps46
    go_upto_region 1 with (fail)
    rw [HW.out, Hbo.out]
    go_wp2_with fail
    with_reducible refine HV.out.mono ?_
    rintro e w2 ⟨rfl, v2, L2, hM2⟩
    have HM2 := Lib.hid (hM2.drop (L' := L2 ++ rdE rb v2 :: L') ((List.Sublist.refl L2).append ((List.sublist_cons_self _ _).cons_cons _)))
    clear hM2
    go_wp2
    exact ⟨rfl, rfl, _, _, HM2.out⟩
  | some xl =>
    obtain ⟨xs, l1⟩ := xl
    go_enter Try.func46, Try.ntmps46
    go_upto_region 1 with (fail)
    rw [HW.out, Hbo.out]
    go_wp2_with fail
    with_reducible refine HV.out.mono ?_
    rintro e w2 ⟨vx, v2, rfl, hR2, hM2⟩
    obtain ⟨ax, mx, cx, rfl⟩ := own_slice (hM2.ownV 0 rfl)
    have f0 : w2.frozen? ⟨bo, 0, none⟩ = false := hM2.free 2 rfl 0
    have c0 : w2.cell? ⟨bo, 0, none⟩ = some (.slice none 0 0) := by have := hM2.cell 2 rfl 0; simpa using this
    have zb : bo < w2.heap.size := (hM2.box 2 rfl).2.1
    have HM2 := Lib.hid hM2
    have HR2 := Lib.hid hR2
    clear hM2 hR2
    go_wp2
    have hF := HM2.out.setBox 2 rfl 0 (.slice ax mx cx)
    have r0 := hF.cell 2 rfl 0
    simp only [List.getElem?_toArray, List.setIfInBounds_toArray, List.set_cons_zero, List.getElem?_cons_zero] at r0
    refine bodyPost_ret (v := .agg #[.slice ax mx cx]) (by simp [results, Try.results46, go_sem, r0]) rfl ⟨_, _, rfl, HR2.out, ?_⟩
    exact hF.drop (L' := rowV 64 (.slice ax mx cx) xs :: rdE rb v2 :: L') (((List.sublist_cons_self _ _).cons_cons _).cons_cons _)
def VecOSays (w0 w' : World) (rb : Nat) (L' : List Ent) (r : Option (List (List V) × List Nat)) (e : Ending) : Prop :=
  match r with
  | none => Broke e ∧ ∃ v L'', Mem w0.heap.size w0 w' (rdE rb v :: (L'' ++ L'))
  | some (os, l) => ∃ vo v rows, e = .returned vo ∧ rows.map (·.2) = os ∧ IsRest w0 v l ∧ Mem w0.heap.size w0 w' (erow 43 1 vo rows.length (rows.map (·.1)) :: rdE rb v :: (rowsE rows ++ L'))
theorem perm_row (x a b : Ent) (R L' : List Ent) : (x :: a :: b :: (R ++ L')).Perm (a :: b :: ((R ++ [x]) ++ L')) := by
  refine (List.Perm.swap _ _ _).trans (List.Perm.cons _ ?_)
  refine (List.Perm.swap _ _ _).trans (List.Perm.cons _ ?_)
  rw [List.append_assoc]
  exact List.perm_middle.symm
set_option maxRecDepth 100000 in
set_option maxHeartbeats 1000000 in
theorem readO_any (w0 w : World) (rb most : Nat) (v : Value) (l : List Nat) (L' : List Ent) (hM : Mem w0.heap.size w0 w (rdE rb v :: L')) (hR : IsRest w0 v l) (hmost : most ≤ 100) :
    Calls Try.prog 45 #[.pointer (some ⟨rb, 0, none⟩), .int .i64 (most : Int), .func (.func 46) #[.pointer (some ⟨rb, 0, none⟩)] #[]] w fun e w' => VecOSays w0 w' rb L' (listP most objP l) e := by
  have HN := Lib.hid (rnum_any w0 w rb v l L' hM hR)
  obtain ⟨R, hRR⟩ : ∃ R, listP (most : Int) objP l = R := ⟨_, rfl⟩
  rw [hRR]
  unfold listP at hRR
  clear hM hR
  cases hn : numP 10 0 0 l with
  | none =>
    rw [hn] at HN hRR
    have HRR := Lib.hid hRR.symm
    clear hRR hn
    go_enter Try.func45, Try.ntmps45
    go_wp2_with fail
    with_reducible refine HN.out.mono ?_
    rintro e w2 ⟨rfl, v2, hM2⟩
    have HM2 := Lib.hid hM2
    clear hM2
    go_wp2
    rw [HRR.out]
    exact ⟨rfl, rfl, _, [], HM2.out⟩
  | some nl =>
    obtain ⟨n, l1⟩ := nl
    have hn64 := numP_ok _ _ _ _ hn
    rw [hn] at HN hRR
    simp only at hRR
    by_cases hneg : n < 0
    · rw [if_pos (.inl hneg)] at hRR
      have HRR := Lib.hid hRR.symm
      have q := decide_eq_true hneg
      clear hRR hn
      go_enter Try.func45, Try.ntmps45
      go_wp2_with fail
      with_reducible refine HN.out.mono ?_
      rintro e w2 ⟨rfl, v2, _, hM2⟩
      have HM2 := Lib.hid hM2
      clear hM2
      go_wp2
      rw [HRR.out]
      exact ⟨rfl, rfl, _, [], HM2.out⟩
    · by_cases hbig : (most : Int) < n
      · rw [if_pos (.inr hbig)] at hRR
        have HRR := Lib.hid hRR.symm
        have q : decide (n < 0) = false := decide_eq_false hneg
        have q2 : decide (n > (most : Int)) = true := decide_eq_true hbig
        clear hRR hn
        go_enter Try.func45, Try.ntmps45
        go_wp2_with fail
        with_reducible refine HN.out.mono ?_
        rintro e w2 ⟨rfl, v2, _, hM2⟩
        have HM2 := Lib.hid hM2
        clear hM2
        go_wp2
        rw [HRR.out]
        exact ⟨rfl, rfl, _, [], HM2.out⟩
      · rw [if_neg (by omega)] at hRR
        have q : decide (n < 0) = false := decide_eq_false hneg
        have q2 : decide (n > (most : Int)) = false := decide_eq_false hbig
        obtain ⟨N, rfl⟩ : ∃ N : Nat, n = N := ⟨n.toNat, by omega⟩
        rw [Int.toNat_natCast] at hRR
        have q3 : decide ((most : Int) < (N : Int)) = false := decide_eq_false hbig
        have q4 : decide (most < N) = false := decide_eq_false (by omega)
        have hN100 : N ≤ 100 := by omega
        have HRR := Lib.hid hRR
        clear hRR hn hneg hbig
        go_enter Try.func45, Try.ntmps45
        go_wp2_with fail
        with_reducible refine HN.out.mono ?_
        rintro e w2 ⟨rfl, v2, hR2, hM2⟩
        have HM2 : Hid (Mem w0.heap.size w0 w2 (rdE rb v2 :: erow 43 1 (.slice none 0 0) 0 (([] : Rws).map (·.1)) :: (rowsE [] ++ L'))) := Lib.hid ((hM2.nil 43 1).perm (List.Perm.swap _ _ _))
        have HR2 := Lib.hid hR2
        clear hM2 hR2 HN
        go_wp2
        go_loopw [8, 21] (fun o i wr => ∃ (k m : Nat) (ov v : Value) (rows : Rws) (l : List Nat), ov = o ∧ i = .int .i64 (k : Int) ∧ k + m = N ∧ rows.length = k ∧ Mem w0.heap.size w0 wr (rdE rb v :: erow 43 1 ov k (rows.map (·.1)) :: (rowsE rows ++ L')) ∧ IsRest w0 v l ∧ accP objP m (rows.map (·.2)) l = R) (fun _ i _ => N - (intOf i).toNat)
        case atStart => exact ⟨0, N, _, _, [], _, rfl, rfl, by omega, rfl, HM2.out, HR2.out, HRR.out⟩
        case round =>
          clear HM2 HR2 HRR
          obtain ⟨k, m, ov, v, rows, l, rfl, rfl, hkm, hac, hM, hR, hacc⟩ := hrel
          obtain ⟨ax, mx, cx, rfl⟩ := own_slice (hM.row 1 rfl)
          cases m with
          | zero =>
            obtain rfl : k = N := by omega
            have HRR := Lib.hid (show some (rows.map (·.2), l) = R from hacc)
            have HM := Lib.hid (hM.perm (List.Perm.swap _ _ _))
            rw [← hac] at HM
            have HR := Lib.hid hR
            clear hM hR hacc hkm
            go_wp2
            go_ret
            rw [← HRR.out]
            exact ⟨_, _, rows, rfl, rfl, HR.out, HM.out⟩
          | succ m =>
            have hlt : k < N := by omega
            have hlti : (k : Int) < (N : Int) := by omega
            have HV := Lib.hid (robject_any w0 wr rb v l _ hM hR)
            have Hac := Lib.hid hac
            have Hkm := Lib.hid hkm
            cases hv : objP l with
            | none =>
              have HRR := Lib.hid (show none = R from by rw [← hacc]; simp only [accP, hv])
              rw [hv] at HV
              clear hM hR hacc hkm hac hv
              go_wp2_with fail
              with_reducible refine HV.out.mono ?_
              rintro e w3 ⟨rfl, v3, L3, hM3⟩
              have HM3 := Lib.hid (hM3.perm (List.perm_middle).symm)
              clear hM3
              go_wp2
              rw [← HRR.out]
              refine ⟨rfl, rfl, v3, L3 ++ erow 43 1 (.slice ax mx cx) k (rows.map (·.1)) :: rowsE rows, HM3.out.cast ?_⟩
              simp
            | some xl =>
              obtain ⟨x, l1⟩ := xl
              have HRR := Lib.hid (show accP objP m (rows.map (·.2) ++ [x]) l1 = R from by rw [← hacc]; simp only [accP, hv])
              rw [hv] at HV
              clear hM hR hacc hkm hac hv
              go_wp2_with fail
              with_reducible refine HV.out.mono ?_
              rintro e w3 ⟨vx, v3, rfl, hR3, hM3⟩
              obtain ⟨ay, my, cy, rfl⟩ := own_slice (hM3.ownV 0 rfl)
              have HM3 := Lib.hid (hM3.perm (perm_row _ _ _ _ _).symm)
              have HR3 := Lib.hid hR3
              clear hM3 hR3 HV
              go_wp2_with (refine Mem.wp_app1 elemObjs rfl (.tmp 23) (.tmp 26) rfl HM3.out 1 rfl rfl _ #[.slice ay my cy] _ _ rfl rfl rfl rfl (by decide) (by omega) ?_; intro ad cp w7 hM7 hs7 hk7 ha7)
              go_roundw
              case rel =>
                refine ⟨k + 1, m, _, _, rows ++ [(.slice ay my cy, x)], _, rfl, by go_num, by have := Hkm.out; omega, by rw [List.length_append, Hac.out]; rfl, hM7.cast ?_, HR3.out, ?_⟩
                · rw [rowsE_snoc, List.map_append]; rfl
                · rw [List.map_append]; exact HRR.out
              case measure => simp [intOf]; omega
end Go.Proofs.Ytelhjcifiahahaa
