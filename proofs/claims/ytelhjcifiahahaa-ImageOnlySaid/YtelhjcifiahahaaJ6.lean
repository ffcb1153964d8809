/- Graphs out of bytes: a graph, walked. -/
import Derived.Test.YtelhjcifiahahaaJ5
namespace Go.Proofs.Ytelhjcifiahahaa
open Go.RowKit

theorem listP_facts {α : Type} {one : List Nat → Option (α × List Nat)} {p : α → Prop} (hp : ∀ l x r, one l = some (x, r) → p x) {most : Nat} {l : List Nat} {xs : List α} {r : List Nat} (h : listP (most : Int) one l = some (xs, r)) : xs.length ≤ most ∧ ∀ x ∈ xs, p x := by
  unfold listP at h
  split at h
  · cases h
  · rename_i n l1 _
    split at h
    · cases h
    · rename_i hn
      have h1 := accP_len _ _ _ h
      have h2 := accP_all hp _ _ _ (fun x hx => by cases hx) h
      simp only [List.length_nil] at h1
      exact ⟨by omega, h2⟩
def graphP (l : List Nat) : Option (G × List Nat) :=
  match listP (8 : Nat) valP l with
  | none => none
  | some (rs, l1) => match listP (24 : Nat) objP l1 with | none => none | some (os, l2) => some (⟨os, rs⟩, l2)
theorem perm_b (a b c : Ent) (K L' : List Ent) : (b :: c :: (K ++ a :: L')).Perm (K ++ a :: b :: c :: L') := by
  have e1 : K ++ a :: b :: c :: L' = (K ++ [a]) ++ b :: c :: L' := by simp
  have e2 : K ++ a :: L' = (K ++ [a]) ++ L' := by simp
  rw [e1, e2]
  exact ((List.perm_middle).trans (List.Perm.cons _ List.perm_middle)).symm
theorem perm_c (x a b c : Ent) (K L' : List Ent) : (b :: c :: (x :: (K ++ a :: L'))).Perm (x :: (K ++ a :: b :: c :: L')) := by
  refine List.Perm.trans ?_ (List.Perm.cons x (perm_b a b c K L'))
  exact (List.Perm.trans (List.Perm.swap _ _ _) (List.Perm.cons _ (List.Perm.swap _ _ _))).symm
theorem perm_d (x y a b c : Ent) (K L' : List Ent) : (b :: c :: (x :: y :: (K ++ a :: L'))).Perm (x :: y :: (K ++ a :: b :: c :: L')) := by
  refine List.Perm.trans ?_ (List.Perm.cons x (perm_c y a b c K L'))
  exact (List.Perm.trans (List.Perm.swap _ _ _) (List.Perm.cons _ (List.Perm.swap _ _ _))).symm
def GraphSays (w0 w' : World) (r : Option (G × List Nat)) (e : Ending) : Prop :=
  match r with
  | none => e = .returned (.tuple #[.agg #[.slice none 0 0, .slice none 0 0], .bool false]) ∧ Below w0.heap.size w0 w'
  | some (g, _) => ∃ vo vr, e = .returned (.tuple #[.agg #[vo, vr], .bool true]) ∧ Graft w0.heap.size w' (.agg #[vo, vr]) g ∧ Below w0.heap.size w0 w'
set_option maxRecDepth 100000 in
set_option maxHeartbeats 2000000 in
theorem rgraph_any (w0 w : World) (rb : Nat) (v : Value) (l : List Nat) (L' : List Ent) (hM : Mem w0.heap.size w0 w (rdE rb v :: L')) (hR : IsRest w0 v l) :
    Calls Try.prog 25 #[.pointer (some ⟨rb, 0, none⟩)] w fun e w' => GraphSays w0 w' (graphP l) e := by
  have hmf : ∀ (fn : Fn) (first cap : Array Value) (w : World), (Instr.makeFunc fn first cap).run Try.prog w = .ok (.func fn first cap) w := fun _ _ _ _ => rfl
  have hM1 := (hM.alloc #[.slice none 0 0, .slice none 0 0] 25).allocAt (w.heap.size + 1) (by simp) #[.bool false] 4
  obtain ⟨W, hW⟩ : ∃ W, (w.alloc (.cells #[.slice none 0 0, .slice none 0 0] 25)).alloc (.cells #[.bool false] 4) = W := ⟨_, rfl⟩
  obtain ⟨bg, hbg⟩ : ∃ bg, w.heap.size = bg := ⟨_, rfl⟩
  rw [hW, hbg] at hM1
  obtain ⟨bk, hbk⟩ : ∃ bk, bg + 1 = bk := ⟨_, rfl⟩
  rw [hbk] at hM1
  have hM2 : Mem w0.heap.size w0 W (rdE rb v :: ebox bk #[.bool false] 4 :: ebox bg #[.slice none 0 0, .slice none 0 0] 25 :: L') := hM1.perm ((List.Perm.swap _ _ _).trans (List.Perm.cons _ (List.Perm.swap _ _ _)))
  have HV : Hid (Calls Try.prog 43 #[.pointer (some ⟨rb, 0, none⟩), .int .i64 8, .func (.func 44) #[.pointer (some ⟨rb, 0, none⟩)] #[]] W fun e w' => VecSays w0 w' rb (ebox bk #[.bool false] 4 :: ebox bg #[.slice none 0 0, .slice none 0 0] 25 :: L') (listP (8 : Nat) valP l) e) := Lib.hid (readV_any w0 W rb 8 v l _ hM2 hR (by omega))
  have HW := Lib.hid hW
  have Hbg := Lib.hid hbg
  have Hbk := Lib.hid hbk
  obtain ⟨R, hRR⟩ : ∃ R, graphP l = R := ⟨_, rfl⟩
  rw [hRR]
  unfold graphP at hRR
  clear hM hM1 hM2 hW hbg hbk hR
  cases h1 : listP (8 : Nat) valP l with
  | none =>
    rw [h1] at hRR HV
    have HRR := Lib.hid hRR.symm
    clear hRR h1
    go_enter_defers Try.func25, Try.ntmps25
    go_upto_region 1 with (fail)
    rw [HW.out, Hbg.out, Hbk.out]
    go_wp2_with fail
    with_reducible refine HV.out.mono ?_
    rintro e w2 ⟨rfl, v2, L2, hM2⟩
    have HM2 := Lib.hid (hM2.perm (perm_b _ _ _ _ _))
    clear hM2
    go_wp2
    refine leaves_cons (f := 42) (args := #[.pointer (some ⟨bg, 0, none⟩), .pointer (some ⟨bk, 0, none⟩)]) (by simp) (by simp [go_sem]) ?_
    refine (catch_panic _ _ _ bg bk _ _ _ _ HM2.out).mono ?_
    rintro e u' w'' ⟨rfl, rfl, hM3⟩
    have c0 : w''.cell? ⟨bk, 0, none⟩ = some (.bool false) := by have := hM3.cell 0 rfl 0; simpa using this
    have g0 : w''.cell? ⟨bg, 0, none⟩ = some (.slice none 0 0) := by have := hM3.cell 1 rfl 0; simpa using this
    have g1 : w''.cell? ⟨bg, 1, none⟩ = some (.slice none 0 0) := by have := hM3.cell 1 rfl 1; simpa using this
    simp [Leaves, settle, results, Try.results25, go_sem, c0, g0, g1]
    rw [HRR.out]
    exact ⟨rfl, hM3.below⟩
  | some rl =>
    obtain ⟨rs, l1⟩ := rl
    have hrs := listP_facts (p := fun x : V => i64ok x.n) (fun l x r h => valP_ok h) h1
    rw [h1] at hRR HV
    simp only at hRR
    have Hrs := Lib.hid hrs
    clear h1 hrs
    go_enter_defers Try.func25, Try.ntmps25
    go_upto_region 1 with (fail)
    rw [HW.out, Hbg.out, Hbk.out]
    go_wp2_with fail
    with_reducible refine HV.out.mono ?_
    rintro e w2 ⟨vr, v2, rfl, hR2, hM2⟩
    obtain ⟨ar, mr, cr, rfl⟩ := own_slice (hM2.ownV 0 rfl)
    have f1 : w2.frozen? ⟨bg, 1, none⟩ = false := hM2.free 3 rfl 1
    have c1 : w2.cell? ⟨bg, 1, none⟩ = some (.slice none 0 0) := by have := hM2.cell 3 rfl 1; simpa using this
    have zg : bg < w2.heap.size := (hM2.box 3 rfl).2.1
    have hM3 := (hM2.setBox 3 rfl 1 (.slice ar mr cr)).perm (List.Perm.swap (rowV 64 (.slice ar mr cr) rs) (rdE rb v2) _)
    have HO : Hid (Calls Try.prog 45 #[.pointer (some ⟨rb, 0, none⟩), .int .i64 24, .func (.func 46) #[.pointer (some ⟨rb, 0, none⟩)] #[]] (w2.setCell ⟨bg, 1, none⟩ (.slice ar mr cr)) fun e w' => VecOSays w0 w' rb (rowV 64 (.slice ar mr cr) rs :: ebox bk #[.bool false] 4 :: ebox bg #[.slice none 0 0, .slice ar mr cr] 25 :: L') (listP (24 : Nat) objP l1) e) := Lib.hid (readO_any w0 _ rb 24 v2 l1 _ hM3 hR2 (by omega))
    clear hM2 hM3 hR2 HV
    cases h2 : listP (24 : Nat) objP l1 with
    | none =>
      rw [h2] at hRR HO
      have HRR := Lib.hid hRR.symm
      clear hRR h2
      go_wp2_with fail
      with_reducible refine HO.out.mono ?_
      rintro e w4 ⟨rfl, v4, L4, hM4⟩
      have HM4 := Lib.hid (hM4.perm (perm_c _ _ _ _ _ _))
      clear hM4
      go_wp2
      refine leaves_cons (f := 42) (args := #[.pointer (some ⟨bg, 0, none⟩), .pointer (some ⟨bk, 0, none⟩)]) (by simp) (by simp [go_sem]) ?_
      refine (catch_panic _ _ _ bg bk _ _ _ _ HM4.out).mono ?_
      rintro e u' w'' ⟨rfl, rfl, hM3⟩
      have c0 : w''.cell? ⟨bk, 0, none⟩ = some (.bool false) := by have := hM3.cell 0 rfl 0; simpa using this
      have g0 : w''.cell? ⟨bg, 0, none⟩ = some (.slice none 0 0) := by have := hM3.cell 1 rfl 0; simpa using this
      have g1 : w''.cell? ⟨bg, 1, none⟩ = some (.slice none 0 0) := by have := hM3.cell 1 rfl 1; simpa using this
      simp [Leaves, settle, results, Try.results25, go_sem, c0, g0, g1]
      rw [HRR.out]
      exact ⟨rfl, hM3.below⟩
    | some ol =>
      obtain ⟨os, l2⟩ := ol
      have hos := listP_facts (p := fun o : List V => o.length ≤ 4 ∧ ∀ x ∈ o, i64ok x.n) (fun l x r h => listP_facts (p := fun x : V => i64ok x.n) (fun l x r h => valP_ok h) (most := 4) h) h2
      rw [h2] at hRR HO
      simp only at hRR
      have HRR := Lib.hid hRR.symm
      have Hos := Lib.hid hos
      clear hRR h2 hos
      go_wp2_with fail
      with_reducible refine HO.out.mono ?_
      rintro e w4 ⟨vo, v4, rows, rfl, hrows, _, hM4⟩
      have hM5 := hM4.perm (perm_d _ _ _ _ _ _ _)
      obtain ⟨ao, mo, co, rfl⟩ := own_slice (hM5.row 2 rfl)
      have n1 : ¬ bk = bg := fun h => (Ent.apart_at hM5.apart (i := 0) (j := 1) (by decide) rfl rfl) bk rfl (by rw [h]; rfl)
      have n2 : ¬ bg = bk := fun h => n1 h.symm
      have k0 : w4.cell? ⟨bk, 0, none⟩ = some (.bool false) := by have := hM5.cell 0 rfl 0; simpa using this
      have k1 : w4.frozen? ⟨bk, 0, none⟩ = false := hM5.free 0 rfl 0
      have g0 : w4.cell? ⟨bg, 0, none⟩ = some (.slice none 0 0) := by have := hM5.cell 1 rfl 0; simpa using this
      have g1 : w4.cell? ⟨bg, 1, none⟩ = some (.slice ar mr cr) := by have := hM5.cell 1 rfl 1; simpa using this
      have e0 : w4.frozen? ⟨bg, 0, none⟩ = false := hM5.free 1 rfl 0
      have e1 : w4.frozen? ⟨bg, 1, none⟩ = false := hM5.free 1 rfl 1
      have zk4 : bk < w4.heap.size := (hM5.box 0 rfl).2.1
      have zg4 : bg < w4.heap.size := (hM5.box 1 rfl).2.1
      have HM5 := Lib.hid hM5
      have Hrows := Lib.hid hrows
      clear hM4 hM5 hrows HO
      go_wp2
      have hF := (((HM5.out.setBox 1 rfl 0 (.slice ao mo co)).setBox 1 rfl 0 (.slice ao mo co)).setBox 1 rfl 1 (.slice ar mr cr)).setBox 0 rfl 0 (.bool true)
      obtain ⟨W9, hW9⟩ : ∃ W9, (((w4.setCell ⟨bg, 0, none⟩ (.slice ao mo co)).setCell ⟨bg, 0, none⟩ (.slice ao mo co)).setCell ⟨bg, 1, none⟩ (.slice ar mr cr)).setCell ⟨bk, 0, none⟩ (.bool true) = W9 := ⟨_, rfl⟩
      rw [hW9] at hF ⊢
      have c0 : W9.cell? ⟨bk, 0, none⟩ = some (.bool true) := by have := hF.cell 0 rfl 0; simpa using this
      have h0 : W9.cell? ⟨bg, 0, none⟩ = some (.slice ao mo co) := by have := hF.cell 1 rfl 0; simpa using this
      have h1 : W9.cell? ⟨bg, 1, none⟩ = some (.slice ar mr cr) := by have := hF.cell 1 rfl 1; simpa using this
      have HF := Lib.hid hF
      clear hF hW9 k0 k1 g0 g1 e0 e1 zk4 zg4 HM5
      refine leaves_cons (f := 42) (args := #[.pointer (some ⟨bg, 0, none⟩), .pointer (some ⟨bk, 0, none⟩)]) (by simp) (by simp [go_sem]) ?_
      refine (catch_idle bg bk _).mono ?_
      rintro e u' w'' ⟨rfl, rfl, rfl⟩
      simp [Leaves, settle, results, Try.results25, go_sem, c0, h0, h1]
      rw [HRR.out]
      have hlen : rows.length ≤ 24 := by have := Hos.out.1; rw [← Hrows.out, List.length_map] at this; exact this
      refine ⟨_, _, rfl, fun W' hs hb => ?_, HF.out.below⟩
      have hF := HF.out.move hs hb
      refine ⟨_, _, rfl, ?_, ?_⟩
      · rw [← Hrows.out]
        refine isObjs_of_own (hF.row 2 rfl) (by omega) fun r hr => ?_
        have ho := Hos.out.2 r.2 (by rw [← Hrows.out]; exact List.mem_map_of_mem hr)
        refine hF.isValsM (e := 64) (v := r.1) (l := r.2) ?_ (by omega) ho.2
        refine List.mem_cons_of_mem _ (List.mem_cons_of_mem _ (List.mem_cons_of_mem _ (List.mem_cons_of_mem _ (List.mem_append_left _ ?_))))
        exact List.mem_map_of_mem (f := fun r : Value × List V => rowV 64 r.1 r.2) hr
      · refine hF.isValsM (e := 64) (v := .slice ar mr cr) (l := rs) ?_ (by have := Hrs.out.1; omega) Hrs.out.2
        exact List.mem_cons_of_mem _ (List.mem_cons_of_mem _ (List.mem_cons_of_mem _ (List.mem_cons_of_mem _ (List.mem_append_right _ List.mem_cons_self))))
end Go.Proofs.Ytelhjcifiahahaa
