/- Graphs out of bytes: a value, lists of values, objects, walked. -/
import Derived.Test.YtelhjcifiahahaaJ1
import Derived.Test.YtelhjcifiahahaaGr
namespace Go.Proofs.Ytelhjcifiahahaa
open Go.RowKit

def valP : List Nat → Option (V × List Nat)
  | [] => none
  | kd :: l => if 1 < kd then none else (match numP 10 0 0 l with | none => none | some (n, l') => some (⟨kd == 1, n⟩, l'))
def accP {α : Type} (one : List Nat → Option (α × List Nat)) : Nat → List α → List Nat → Option (List α × List Nat)
  | 0, acc, l => some (acc, l)
  | m + 1, acc, l => match one l with | none => none | some (x, l1) => accP one m (acc ++ [x]) l1
def listP {α : Type} (most : Int) (one : List Nat → Option (α × List Nat)) (l : List Nat) : Option (List α × List Nat) :=
  match numP 10 0 0 l with
  | none => none
  | some (n, l1) => if n < 0 ∨ most < n then none else accP one n.toNat [] l1
def objP (l : List Nat) : Option (List V × List Nat) := listP 4 valP l
theorem valP_ok {l : List Nat} {x : V} {r : List Nat} (h : valP l = some (x, r)) : i64ok x.n := by
  cases l with
  | nil => cases h
  | cons kd l =>
    simp only [valP] at h
    split at h
    · cases h
    · split at h
      · cases h
      · rename_i n l' hn
        cases h
        exact numP_ok _ _ _ _ hn
def ValSays (w0 w' : World) (rb : Nat) (L' : List Ent) (r : Option (V × List Nat)) (e : Ending) : Prop :=
  match r with
  | none => Broke e ∧ ∃ v, Mem w0.heap.size w0 w' (rdE rb v :: L')
  | some (x, l) => e = .returned (.agg #[.bool x.ref, .int .i64 x.n]) ∧ ∃ v, IsRest w0 v l ∧ Mem w0.heap.size w0 w' (rdE rb v :: L')
set_option maxRecDepth 100000 in
set_option maxHeartbeats 1000000 in
theorem rvalue_any (w0 w : World) (rb : Nat) (v : Value) (l : List Nat) (L' : List Ent) (hM : Mem w0.heap.size w0 w (rdE rb v :: L')) (hR : IsRest w0 v l) :
    Calls Try.prog 44 #[.pointer (some ⟨rb, 0, none⟩)] w fun e w' => ValSays w0 w' rb L' (valP l) e := by
  have hMa := (hM.alloc #[.bool false, .int .i64 0] 64).perm (List.Perm.swap _ _ _)
  obtain ⟨W, hW⟩ : ∃ W, w.alloc (.cells #[.bool false, .int .i64 0] 64) = W := ⟨_, rfl⟩
  obtain ⟨bv, hbv⟩ : ∃ bv, w.heap.size = bv := ⟨_, rfl⟩
  rw [hW, hbv] at hMa
  have HN := Lib.hid (next_any w0 W rb v l _ hMa hR)
  have HW := Lib.hid hW
  have Hbv := Lib.hid hbv
  have H256 := Lib.hid (show ∀ x ∈ l, x < 256 from by obtain ⟨_, _, _, _, _, _, h⟩ := hR; exact h)
  clear hM hMa hW hbv hR
  obtain ⟨R, hRR⟩ : ∃ R, valP l = R := ⟨_, rfl⟩
  rw [hRR]
  cases l with
  | nil =>
    have HRR := Lib.hid (hRR.symm.trans (show valP [] = none from rfl))
    clear hRR
    go_enter Try.func44, Try.ntmps44
    go_upto_region 1 with (fail)
    rw [HW.out, Hbv.out]
    go_wp2_with fail
    with_reducible refine HN.out.mono ?_
    rintro e w2 ⟨rfl, v2, hM2⟩
    have HM2 := Lib.hid (hM2.drop (L' := rdE rb v2 :: L') ((List.sublist_cons_self _ _).cons_cons _))
    clear hM2
    go_wp2
    rw [HRR.out]
    exact ⟨rfl, rfl, _, HM2.out⟩
  | cons kd l' =>
    have hkd := H256.out kd List.mem_cons_self
    have HRR := Lib.hid hRR
    clear hRR
    go_enter Try.func44, Try.ntmps44
    go_upto_region 1 with (fail)
    rw [HW.out, Hbv.out]
    go_wp2_with fail
    with_reducible refine HN.out.mono ?_
    rintro e w2 ⟨rfl, v2, hR2, hM2⟩
    by_cases hk1 : 1 < kd
    · have q : decide ((kd : Int) > 1) = true := decide_eq_true (by omega)
      have q2 : decide (1 < kd) = true := decide_eq_true hk1
      have hv : valP (kd :: l') = none := by simp only [valP]; rw [if_pos hk1]
      have Hv := Lib.hid (HRR.out.symm.trans hv)
      have HM2 := Lib.hid (hM2.drop (L' := rdE rb v2 :: L') ((List.sublist_cons_self _ _).cons_cons _))
      clear hM2 hR2 hv
      go_wp2
      rw [Hv.out]
      exact ⟨rfl, rfl, _, HM2.out⟩
    · have q : decide ((kd : Int) > 1) = false := decide_eq_false (by omega)
      have q2 : decide (1 < kd) = false := decide_eq_false hk1
      have HQ := Lib.hid (rnum_any w0 w2 rb v2 l' _ hM2 hR2)
      have hv : valP (kd :: l') = match numP 10 0 0 l' with | none => none | some (n, l1) => some (⟨kd == 1, n⟩, l1) := by simp only [valP]; rw [if_neg hk1]
      obtain ⟨r, hr⟩ : ∃ r, numP 10 0 0 l' = r := ⟨_, rfl⟩
      rw [hr] at HQ hv
      have hv2 := HRR.out.symm.trans hv
      clear hM2 hR2 hv hr
      cases r with
      | none =>
        go_wp2_with fail
        with_reducible refine HQ.out.mono ?_
        rintro e w3 ⟨rfl, v3, hM3⟩
        have HM3 := Lib.hid (hM3.drop (L' := rdE rb v3 :: L') ((List.sublist_cons_self _ _).cons_cons _))
        have Hv := Lib.hid hv2
        clear hM3 hv2
        go_wp2
        rw [Hv.out]
        exact ⟨rfl, rfl, _, HM3.out⟩
      | some nr =>
        obtain ⟨n, l1⟩ := nr
        go_wp2_with fail
        with_reducible refine HQ.out.mono ?_
        rintro e w3 ⟨rfl, v3, hR3, hM3⟩
        have f0 : w3.frozen? ⟨bv, 0, none⟩ = false := hM3.free 1 rfl 0
        have f1 : w3.frozen? ⟨bv, 1, none⟩ = false := hM3.free 1 rfl 1
        have c0 : w3.cell? ⟨bv, 0, none⟩ = some (.bool false) := by have := hM3.cell 1 rfl 0; simpa using this
        have c1 : w3.cell? ⟨bv, 1, none⟩ = some (.int .i64 0) := by have := hM3.cell 1 rfl 1; simpa using this
        have zb : bv < w3.heap.size := (hM3.box 1 rfl).2.1
        have HM3 := Lib.hid hM3
        have HR3 := Lib.hid hR3
        have hkk : kd = 0 ∨ kd = 1 := by omega
        have Hv := Lib.hid hv2
        clear hM3 hR3 hv2
        rcases hkk with rfl | rfl
        · go_wp2
          have hF := (HM3.out.setBox 1 rfl 0 (.bool false)).setBox 1 rfl 1 (.int .i64 n)
          have r0 := hF.cell 1 rfl 0
          have r1 := hF.cell 1 rfl 1
          simp only [List.getElem?_toArray, List.setIfInBounds_toArray, List.set_cons_zero, List.set_cons_succ, List.getElem?_cons_zero, List.getElem?_cons_succ] at r0 r1
          refine bodyPost_ret (v := .agg #[.bool false, .int .i64 n]) (by simp [results, Try.results44, go_sem, r0, r1]) rfl ?_
          rw [Hv.out]
          refine ⟨rfl, _, HR3.out, ?_⟩
          exact hF.drop (L' := rdE rb v3 :: L') ((List.sublist_cons_self _ _).cons_cons _)
        · go_wp2
          have hF := (HM3.out.setBox 1 rfl 0 (.bool true)).setBox 1 rfl 1 (.int .i64 n)
          have r0 := hF.cell 1 rfl 0
          have r1 := hF.cell 1 rfl 1
          simp only [List.getElem?_toArray, List.setIfInBounds_toArray, List.set_cons_zero, List.set_cons_succ, List.getElem?_cons_zero, List.getElem?_cons_succ] at r0 r1
          refine bodyPost_ret (v := .agg #[.bool true, .int .i64 n]) (by simp [results, Try.results44, go_sem, r0, r1]) rfl ?_
          rw [Hv.out]
          refine ⟨rfl, _, HR3.out, ?_⟩
          exact hF.drop (L' := rdE rb v3 :: L') ((List.sublist_cons_self _ _).cons_cons _)
end Go.Proofs.Ytelhjcifiahahaa
