/- Texts Mx Pc Pm Rpl Rpm Rpn in one. -/
import Derived.Test.YtmmcjjklmcfegaaBase1
import Derived.Test.YtmmcjjklmcfegaaBcx
import Derived.Test.YtmmcjjklmcfegaaQ4
import Derived.Test.YtmmcjjklmcfegaaS0
import Derived.Test.YtmmcjjklmcfegaaRpk
import Derived.Test.YtmmcjjklmcfegaaBase2
import Derived.Test.YtmmcjjklmcfegaaTak
import Derived.Deep.CutBlock
import Derived.Deep.RegionLaw
import Derived.BigRegion
/- A make of ints at whatever world; what a box holds. -/
namespace Go.Proofs.Ytmmcjjklmcfegaa
open Go.RowKit Go.Shelf
section
variable {P : Program} {B : Nat} {w0 w : World} {L : List Ent} {t e : TypeId}
/-- make([]int, m), at whatever world: the world behind it. -/
theorem make_fun (T : Elem P t e 1 8 (.int .i64 0)) (m : Nat) (hm : m ≤ 1000) : ∃ mk : World → World,
    (∀ W, Sem.run P (Instr.makeSlice t (.int .i64 m) (.int .i64 m)) W = .ok (.slice (some ⟨W.heap.size, 0, none⟩) m m) (mk W)) ∧
    (∀ (B : Nat) (w0 W : World) (L : List Ent), Mem B w0 W L → Mem B w0 (mk W) (rowI e (.slice (some ⟨W.heap.size, 0, none⟩) m m) (List.replicate m 0) :: L)) := by
  obtain ⟨i, hi, hz, hs, hb⟩ := T.info
  have h : ∀ W : World, ∃ W', Sem.run P (Instr.makeSlice t (.int .i64 m) (.int .i64 m)) W = .ok (.slice (some ⟨W.heap.size, 0, none⟩) m m) W' ∧ ∀ (B : Nat) (w0 : World) (L : List Ent), Mem B w0 W L → Mem B w0 W' (rowI e (.slice (some ⟨W.heap.size, 0, none⟩) m m) (List.replicate m 0) :: L) := by
    intro W
    obtain ⟨W', hrun, r1, r2⟩ := run_make_full (P := P) W W.heap.size t e i _ 1 T.under hi hz hs .i64 .i64 m (by rw [hb]; omega) (by simp [maxLen]; omega) (Nat.le_refl _)
    exact ⟨W', hrun, fun B w0 L hM => hM.make_own r1 r2⟩
  exact ⟨fun W => Classical.choose (h W), fun W => (Classical.choose_spec (h W)).1, fun B w0 W L hM => (Classical.choose_spec (h W)).2 B w0 L hM⟩
end
theorem drew_heap (w : World) : w.drew.heap = w.heap := rfl
theorem mem_cps {B : Nat} {w0 W : World} {L A' : List Ent} (hM : Mem B w0 W L) (h : Mem B w0 W L → Mem B w0 W A') : Mem B w0 W A' := h hM
def BoxIn (B : Nat) (w0 w : World) (b : Nat) (c : Array Value) (t : TypeId) : Prop := ∃ L, Mem B w0 w L ∧ ebox b c t ∈ L
theorem BoxIn.both {B : Nat} {w0 w : World} {b : Nat} {x y : Value} {t : TypeId} (h : BoxIn B w0 w b #[x, y] t) : w.cell? ⟨b, 0, none⟩ = some x ∧ w.cell? ⟨b, 1, none⟩ = some y := by
  obtain ⟨L, h1, h2⟩ := h
  exact ⟨h1.boxCell h2 0 rfl, h1.boxCell h2 1 rfl⟩

end Go.Proofs.Ytmmcjjklmcfegaa

/- Play: what all machines share. -/
namespace Go.Proofs.Ytmmcjjklmcfegaa
open Go.RowKit Go.Shelf
def cellsC (p : Int × Int) : List Value := [.int .i64 p.1, .int .i64 p.2]
theorem cellsC_one (p : Int × Int) : ∀ u ∈ cellsC p, u.oneCell' = true := by
  intro u hu
  simp only [cellsC, List.mem_cons, List.not_mem_nil, or_false] at hu
  rcases hu with rfl | rfl <;> rfl
theorem elemCounts : Elem Try.prog 38 53 2 16 (.agg #[.int .i64 0, .int .i64 0]) := ⟨by kernel_rfl, info_parts (by kernel_rfl), rfl, by decide⟩
theorem of_cps {w W : World} {L : List Ent} {g : G} (hG : Good g) {v : Value} (hg : IsGraph w v g) {R : Ending → World → Prop} (hM : Mem w.heap.size w W L)
    (h : ∀ aO cO cs w', conts cs = g.objs.map some → Mem w.heap.size w w' (rowP (.slice aO cs.length cO) cs :: (objsE cs ++ L)) → R (.returned (.slice aO cs.length cO)) w') : Calls Try.prog 37 #[v] W R := by
  refine (of_any g hG v W (hg.later hM.below)).mono ?_
  rintro e w' ⟨vo, cs, rfl, h1, h2⟩
  have h3 := hM.callMem h2
  obtain ⟨aO, cO, rfl⟩ := (h3.cast (L' := [rowP vo cs] ++ (objsE cs ++ L)) rfl).ptrSlice (oAt_of (A := [rowP vo cs]) (kp := 0) (vo := vo) rfl)
  exact h aO cO cs w' h1 h3
theorem permA {x i p : Ent} {os R : List Ent} : (x :: p :: i :: (os ++ R)).Perm (x :: i :: p :: (os ++ R)) := List.Perm.cons _ (List.Perm.swap _ _ _)
theorem permB {x i p : Ent} {os R : List Ent} : (x :: p :: i :: (os ++ R)).Perm (x :: p :: (os ++ i :: R)) := List.Perm.cons _ (List.Perm.cons _ List.perm_middle.symm)
theorem pushIn {x a b : Ent} {P Q : List Ent} : (x :: a :: b :: (P ++ Q)).Perm (a :: b :: (P ++ x :: Q)) := (List.Perm.swap _ _ _).trans (List.Perm.cons _ ((List.Perm.swap _ _ _).trans (List.Perm.cons _ List.perm_middle.symm)))
theorem pull1 {m x : Ent} {L Q : List Ent} : (x :: m :: (L ++ Q)).Perm (m :: (L ++ x :: Q)) := (List.Perm.swap _ _ _).trans (List.Perm.cons _ List.perm_middle.symm)
theorem pull2 {m x y : Ent} {L Q : List Ent} : (x :: y :: m :: (L ++ Q)).Perm (m :: (L ++ x :: y :: Q)) := (List.Perm.cons _ pull1).trans pull1
theorem pull3 {m x y z : Ent} {L Q : List Ent} : (x :: y :: z :: m :: (L ++ Q)).Perm (m :: (L ++ x :: y :: z :: Q)) := (List.Perm.cons _ pull2).trans pull1
end Go.Proofs.Ytmmcjjklmcfegaa

/- What is owned, by pattern: small lemmas for walks in which the world's shape is found by trying. -/
namespace Go.Proofs.Ytmmcjjklmcfegaa
open Go.RowKit

theorem box3 {B : Nat} {w0 w : World} {L : List Ent} {C : Prop} (h : Mem B w0 w L) {b : Nat} {x y z : Value} {t : TypeId} (hm : ebox b #[x, y, z] t ∈ L)
    (k : w.cell? ⟨b, 0, none⟩ = some x → w.cell? ⟨b, 1, none⟩ = some y → w.cell? ⟨b, 2, none⟩ = some z → w.frozen? ⟨b, 0, none⟩ = false → w.frozen? ⟨b, 1, none⟩ = false → w.frozen? ⟨b, 2, none⟩ = false → b < w.heap.size → C) : C :=
  k (h.boxCell hm 0 rfl) (h.boxCell hm 1 rfl) (h.boxCell hm 2 rfl) (h.boxFree hm 0).1 (h.boxFree hm 1).1 (h.boxFree hm 2).1 (h.boxFree hm 0).2
theorem Mem.setBox0 {B : Nat} {w0 w : World} {L : List Ent} {b : Nat} {c : Array Value} {t : TypeId} {j : Nat} {u : Value} (h : Mem B w0 w (ebox b c t :: L)) : Mem B w0 (w.setCell ⟨b, j, none⟩ u) (ebox b (c.setIfInBounds j u) t :: L) := h.setBox 0 rfl j u
theorem permC {a b x : Ent} {L : List Ent} : (x :: a :: b :: L).Perm (a :: b :: x :: L) := (List.perm_middle (l₁ := [a, b])).symm
theorem box2 {B : Nat} {w0 w : World} {L : List Ent} {C : Prop} (h : Mem B w0 w L) {b : Nat} {x y : Value} {t : TypeId} (hm : ebox b #[x, y] t ∈ L)
    (k : w.cell? ⟨b, 0, none⟩ = some x → w.cell? ⟨b, 1, none⟩ = some y → w.frozen? ⟨b, 0, none⟩ = false → w.frozen? ⟨b, 1, none⟩ = false → b < w.heap.size → C) : C :=
  k (h.boxCell hm 0 rfl) (h.boxCell hm 1 rfl) (h.boxFree hm 0).1 (h.boxFree hm 1).1 (h.boxFree hm 0).2
theorem boxL0 {B : Nat} {w0 w : World} {b : Nat} {x y : Value} {t : TypeId} (h : ∃ L, Mem B w0 w L ∧ ebox b #[x, y] t ∈ L) : w.cell? ⟨b, 0, none⟩ = some x := by
  obtain ⟨L, h1, h2⟩ := h
  exact h1.boxCell h2 0 rfl
theorem boxL1 {B : Nat} {w0 w : World} {b : Nat} {x y : Value} {t : TypeId} (h : ∃ L, Mem B w0 w L ∧ ebox b #[x, y] t ∈ L) : w.cell? ⟨b, 1, none⟩ = some y := by
  obtain ⟨L, h1, h2⟩ := h
  exact h1.boxCell h2 1 rfl
theorem Mem.setBox1 {B : Nat} {w0 w : World} {L : List Ent} {a : Ent} {b : Nat} {c : Array Value} {t : TypeId} {j : Nat} {u : Value} (h : Mem B w0 w (a :: ebox b c t :: L)) : Mem B w0 (w.setCell ⟨b, j, none⟩ u) (a :: ebox b (c.setIfInBounds j u) t :: L) := h.setBox 1 rfl j u
end Go.Proofs.Ytmmcjjklmcfegaa

/- A memory that is copied: work, New, Put, Hold, walked. -/
namespace Go.Proofs.Ytmmcjjklmcfegaa
open Go.RowKit Go.Shelf

theorem wpL_append_run {P : Program} {ops : Array Oper} {rest : List Oper} {o : Oper} {a : Act} {w : World} {Q : Exit → Act → World → Prop} (hgd : o.guard = none) (d s : Operand) (dT sT : TypeId)
    (ho : o.op = .call { callee := .builtin .append, args := #[d, s], argTypes := #[dT, sT] }) {v u v' : Value} {w' : World} (hd : a.eval d = v) (hs : a.eval s = u)
    (hr : ∀ ty, (Builtin.append_ #[dT, sT] ty #[v, u]).run P w = .ok v' w') (h : wpList P ops Q rest (a.put o.dst v') w') : wpList P ops Q (o :: rest) a w := by
  refine wpList_plain hgd fun K hK => ?_
  unfold Oper.wp
  simp [execOp, ho, resolve, invoke, builtin, hd, hs, hr, Result.andThen]
  exact hK _ _ h
theorem elemChg : Elem Try.prog 113 149 2 16 (.agg #[.int .i64 0, .int .i64 0]) := ⟨by kernel_rfl, info_parts (by kernel_rfl), rfl, by decide⟩
theorem cpF_push (cc : Cc) : cpF (cc ++ [none]) = cpF cc := by
  funext u
  unfold cpF
  by_cases hu : 0 ≤ u
  · rw [if_pos hu, if_pos hu]
    by_cases h : u.toNat < cc.length
    · rw [List.getElem?_append_left h]
    · rw [List.getElem?_append_right (by omega), List.getElem?_eq_none (l := cc) (by omega)]
      cases h2 : u.toNat - cc.length with
      | zero => rfl
      | succ n => rfl
  · rw [if_neg hu, if_neg hu]
section
variable (B : Nat) (w0 : World) (bx : Nat) (regs : List V) (mv : Value) (bm : Nat)
theorem work_any (T : List Ent) (w : World) (rg : List V) (os : Os) (x : Px) (h8 : rg.length = 8) (hQ : InvQ ⟨rg, os, x⟩) (hll : x.log.length ≤ 1000) (ht : 0 ≤ x.times ∧ x.times ≤ 1000) (hC : PM B w0 bx regs mv bm os x T w) :
    Calls Try.prog 51 #[.pointer (some ⟨bm, 0, none⟩), regsV rg] w fun e w' => WorkSays B w0 bx regs mv bm rg os x T e w' := by
  cases hlog : x.log with
  | cons p l =>
    obtain ⟨o, k⟩ := p
    exact work_log B w0 bx regs mv bm T w rg os x h8 hQ o k l hlog (by rw [hlog, List.length_cons] at hll; omega) hC
  | nil =>
    cases hfd : rg.find? (needs x.cps) with
    | some v => exact work_hit B w0 bx regs mv bm T w rg os x h8 hQ hlog v hfd hC
    | none =>
      cases hfo : x.made[x.filled]? with
      | some o => exact work_fill B w0 bx regs mv bm T w rg os x h8 hQ hlog hfd o hfo hC
      | none => exact work_exch B w0 bx regs mv bm T w rg os x h8 hQ hlog hfd hfo ht hC
def PNewSays (os : Os) (x : Px) (n : Nat) (T : List Ent) (e : Ending) (w' : World) : Prop :=
  (24 ≤ x.row.length → e = .returned (.tuple #[.int .i64 0, .int .i64 6]) ∧ PM B w0 bx regs mv bm os x T w') ∧
  (¬ 24 ≤ x.row.length → e = .returned (.tuple #[.int .i64 (os.length : Int), .int .i64 0]) ∧ PM B w0 bx regs mv bm (os ++ [some (zerosV n)]) { x with row := x.row ++ [(os.length : Int)], cps := x.cps ++ [none] } T w')
set_option maxRecDepth 100000 in
set_option maxHeartbeats 4000000 in
theorem pnew_any (T : List Ent) (w : World) (os : Os) (x : Px) (n : Nat) (hn : n ≤ 4) (hl : os.length ≤ 1000) (hrl : x.row.length ≤ 1000) (hC : PM B w0 bx regs mv bm os x T w) :
    Calls Try.prog 161 #[.pointer (some ⟨bm, 0, none⟩), .int .i64 (n : Int)] w fun e w' => PNewSays B w0 bx regs mv bm os x n T e w' := by
  obtain ⟨vo, cs, vr, bc, vm, vl, cc, hcs, hcc, hM⟩ := hC
  obtain ⟨ra, rc, rfl⟩ := hM.intsSlice 3 rfl
  obtain ⟨nr, hnr⟩ : ∃ nr, x.row.length = nr := ⟨_, rfl⟩
  have m1 : w.cell? ⟨bm, 1, none⟩ = some (.slice ra nr rc) := by rw [← hnr]; exact hM.cell 1 rfl 1
  have mb : bm < w.heap.size := (hM.box 1 rfl).2.1
  have hcl : cs.length = os.length := by rw [← hcs, conts_len]
  have O := oAt_of (A := pA bx regs mv bm bc x.made.length vo cs (.slice ra x.row.length rc) x.row (cpF cc) vm x.made x.filled vl x.log x.times) (R := cc.map rowC ++ T) (kp := 2) (vo := vo) (cs := cs) rfl
  have hnw := onew_any B w0 w _ 1 2 7 bm #[vo, .slice ra x.row.length rc, .map (some bc), vm, .int .i64 (x.filled : Int), vl, .int .i64 x.times] 115 vo cs hM O rfl rfl (by decide) n hn (by omega)
  have HM : Hid (PM B w0 bx regs mv bm os x T w) := Lib.hid ⟨vo, cs, _, bc, vm, vl, cc, hcs, hcc, hM⟩
  have Hnw := Lib.hid hnw
  have Hcs := Lib.hid hcs
  have Hcc : Hid (contsC cc = x.cps) := Lib.hid hcc
  have Hcl := Lib.hid hcl
  have Hnr := Lib.hid hnr
  unfold PNewSays
  rw [hnr]
  rw [hnr] at hrl
  clear hM hcs hcc hcl O hnw hnr
  go_enter Try.func161, Try.ntmps161
  by_cases hr : 24 ≤ nr
  · have hr2 : (24 : Int) ≤ (nr : Int) := by omega
    go_wp2_with fail
    refine bodyPost_ret (v := .tuple #[.int .i64 0, .int .i64 6]) (by simp [results, Try.results161, go_sem]) rfl ?_
    exact ⟨fun _ => ⟨rfl, HM.out⟩, fun h => absurd hr h⟩
  · have hr2 : ¬ (24 : Int) ≤ (nr : Int) := by omega
    go_wp2_with fail
    refine Hnw.out.mono ?_
    rintro e w5 ⟨b', v', vo', rfl, hM7⟩
    have hM8 : Mem B w0 w5 (pA bx regs mv bm bc x.made.length vo' (cs ++ [some ⟨b', v', zerosV n⟩]) (.slice ra x.row.length rc) x.row (cpF cc) vm x.made x.filled vl x.log x.times ++ (objsE (cs ++ [some ⟨b', v', zerosV n⟩]) ++ (cc.map rowC ++ T))) := objs_push (c := some ⟨b', v', zerosV n⟩) (hM7.cast rfl)
    have hM9 : Mem B w0 w5 (pA bx regs mv bm bc x.made.length vo' (cs ++ [some ⟨b', v', zerosV n⟩]) (.slice ra x.row.length rc) x.row (cpF (cc ++ [none])) vm x.made x.filled vl x.log x.times ++ (objsE (cs ++ [some ⟨b', v', zerosV n⟩]) ++ ((cc ++ [none]).map rowC ++ T))) := by
      rw [cpF_push]
      refine hM8.addNone.perm ?_
      rw [List.map_append, List.append_assoc]
      obtain ⟨A, hA⟩ : ∃ A, pA bx regs mv bm bc x.made.length vo' (cs ++ [some ⟨b', v', zerosV n⟩]) (.slice ra x.row.length rc) x.row (cpF cc) vm x.made x.filled vl x.log x.times = A := ⟨_, rfl⟩
      obtain ⟨C, hC⟩ : ∃ C, A ++ (objsE (cs ++ [some ⟨b', v', zerosV n⟩]) ++ cc.map rowC) = C := ⟨_, rfl⟩
      have e1 : A ++ (objsE (cs ++ [some ⟨b', v', zerosV n⟩]) ++ (cc.map rowC ++ ([none].map rowC ++ T))) = C ++ enone :: T := by rw [← hC]; simp only [List.append_assoc]; rfl
      have e2 : A ++ (objsE (cs ++ [some ⟨b', v', zerosV n⟩]) ++ (cc.map rowC ++ T)) = C ++ T := by rw [← hC]; simp only [List.append_assoc]
      rw [hA, e1, e2]
      exact List.perm_middle
    have y1 : w5.cell? ⟨bm, 1, none⟩ = some (.slice ra x.row.length rc) := hM9.cell 1 rfl 1
    have yb : bm < w5.heap.size := (hM9.box 1 rfl).2.1
    have HM9 := Lib.hid hM9
    have hrl2 : x.row.length ≤ 1000000 := by rw [Hnr.out]; omega
    rw [Hcl.out]
    clear hM7 hM8 hM9 Hnw m1 mb
    go_wp2_with (first
      | (at_builtin
         refine Mem.wp_appI elemInts rfl (.tmp 26) (.tmp 28) rfl HM9.out 3 rfl rfl _ (os.length : Int) _ _ rfl (by simp) hrl2 ?_
         intro ad n1 cp w6 hn1 hM7 hs7 hk7 ha7
         have x1 := hM7.cell 1 rfl 1
         have xf := hM7.free 1 rfl 1
         have xb := (hM7.box 1 rfl).2.1
         have HM8 := Lib.hid (hM7.setBox 1 rfl 1 (.slice ad n1 cp))
         clear hM7)
      | fail)
    refine bodyPost_ret (v := .tuple #[.int .i64 (os.length : Int), .int .i64 0]) (by simp [results, Try.results161, go_sem]) rfl ?_
    refine ⟨fun h => absurd h hr, fun _ => ⟨rfl, vo', _, _, bc, vm, vl, cc ++ [none], ?_, ?_, HM8.out⟩⟩
    · rw [← Hcs.out]; simp [conts]
    · show contsC (cc ++ [none]) = x.cps ++ [none]
      rw [← Hcc.out]; simp [contsC]
set_option maxRecDepth 100000 in
set_option maxHeartbeats 1000000 in
theorem phold_any (T : List Ent) (w : World) (os : Os) (x : Px) (r : Nat) (u : V) (hC : PM B w0 bx regs mv bm os x T w) :
    Calls Try.prog 160 #[.pointer (some ⟨bm, 0, none⟩), .int .i64 (r : Int), .agg #[.bool u.ref, .int .i64 u.n]] w fun e w' => e = .returned (.tuple #[]) ∧ PM B w0 bx regs mv bm os x T w' := by
  have HC := Lib.hid (hC.call ((Below.refl _ w).alloc (Nat.le_refl _) (.cells #[.bool u.ref, .int .i64 u.n] 80)))
  clear hC
  go_enter Try.func160, Try.ntmps160
  go_wp2_with fail
  refine bodyPost_end (results_none rfl _ _ _) rfl ⟨rfl, HC.out⟩
set_option maxRecDepth 100000 in
set_option maxHeartbeats 4000000 in
theorem pput_any (T : List Ent) (w : World) (os : Os) (x : Px) (i k : Nat) (u : V) (hi : Lives os (i : Int)) (hk : k < (objAt os (i : Int)).length) (hll : x.log.length ≤ 1000) (hC : PM B w0 bx regs mv bm os x T w) :
    Calls Try.prog 162 #[.pointer (some ⟨bm, 0, none⟩), .int .i64 (i : Int), .int .i64 (k : Int), .agg #[.bool u.ref, .int .i64 u.n]] w fun e w' => e = .returned (.tuple #[]) ∧
      PM B w0 bx regs mv bm (os.set i (some ((objAt os (i : Int)).set k u))) { x with log := x.log ++ [((i : Int), k)] } T w' := by
  have hCe := hC.allocEnd #[.bool u.ref, .int .i64 u.n] 80
  obtain ⟨b7, hb7⟩ : ∃ b7, w.heap.size = b7 := ⟨_, rfl⟩
  obtain ⟨W, hW⟩ : ∃ W, w.alloc (.cells #[.bool u.ref, .int .i64 u.n] 80) = W := ⟨_, rfl⟩
  rw [hW, hb7] at hCe
  have z0 := hCe.boxCell (List.mem_append_right _ (List.mem_singleton.2 rfl)) 0 rfl
  have z1 := (hCe.boxCell (List.mem_append_right _ (List.mem_singleton.2 rfl)) 1 rfl).1
  obtain ⟨z0, _, zb⟩ := z0
  obtain ⟨vo, cs, vr, bc, vm, vl, cc, hcs, hcc, hM⟩ := hCe
  have hob := hi.obj
  rw [Int.toNat_natCast] at hob
  rw [← hcs] at hob
  obtain ⟨oc, hoc, hl⟩ := conts_get hob
  rw [hcs] at hl
  have m0 : W.cell? ⟨bm, 0, none⟩ = some vo := hM.cell 1 rfl 0
  have mb : bm < W.heap.size := (hM.box 1 rfl).2.1
  have HM := Lib.hid hM
  have HW := Lib.hid hW
  have Hb7 := Lib.hid hb7
  have Hl := Lib.hid hl
  have Hoc := Lib.hid hoc
  have Hk := Lib.hid hk
  have Hcs := Lib.hid hcs
  have Hcc : Hid (contsC cc = x.cps) := Lib.hid hcc
  clear hM hW hb7 hcs hcc hob hl hoc hk hi hC
  go_enter Try.func162, Try.ntmps162
  go_upto_region 1 with (fail)
  rw [HW.out, Hb7.out]
  go_still_tail 7, (by kernel_rfl)
  go_wp2_with fail
  have hkl : k < oc.l.length := by rw [Hl.out]; exact Hk.out
  refine (oput_any B w0 W.drew _ 2 7 vo cs HM.out.drew (oAt_of (A := pA bx regs mv bm bc x.made.length vo cs vr x.row (cpF cc) vm x.made x.filled vl x.log x.times) rfl) i oc Hoc.out k hkl u).mono ?_
  rintro e w4 ⟨rfl, hM4⟩
  have h1 := objs_set (A := pA bx regs mv bm bc x.made.length vo cs vr x.row (cpF cc) vm x.made x.filled vl x.log x.times) (R := cc.map rowC ++ (T ++ [ebox b7 #[.bool u.ref, .int .i64 u.n] 80])) Hoc.out (c' := some ⟨oc.b, oc.v, oc.l.set k u⟩) rfl
  have h2 : rowP vo (cs.set i (some ⟨oc.b, oc.v, oc.l.set k u⟩)) = rowP vo cs := by
    unfold rowP
    rw [List.length_set, List.map_set]
    congr 1
    exact set_same (by rw [List.getElem?_map, Hoc.out]; rfl)
  have hM5 := hM4.cast h1
  have e4 : pA bx regs mv bm bc x.made.length vo cs vr x.row (cpF cc) vm x.made x.filled vl x.log x.times = pA bx regs mv bm bc x.made.length vo (cs.set i (some ⟨oc.b, oc.v, oc.l.set k u⟩)) vr x.row (cpF cc) vm x.made x.filled vl x.log x.times := by
    unfold pA; rw [h2]
  rw [e4] at hM5
  obtain ⟨la, lc, hvl, _⟩ := hM5.logSlice 6 rfl
  have y5 : w4.cell? ⟨bm, 5, none⟩ = some vl := hM5.cell 1 rfl 5
  have yb : bm < w4.heap.size := (hM5.box 1 rfl).2.1
  obtain ⟨v', w5, hrun, hM6, ⟨na, nn, nc, rfl⟩, hsz⟩ := Mem.run_appL elemChg hM5 6 rfl ((i : Int), k) 1 (by decide) (by omega) 149
  have x5 : w5.cell? ⟨bm, 5, none⟩ = some vl := hM6.cell 1 rfl 5
  have xf : w5.frozen? ⟨bm, 5, none⟩ = false := hM6.free 1 rfl 5
  have xb : bm < w5.heap.size := (hM6.box 1 rfl).2.1
  have HM7 := Lib.hid (hM6.setBox 1 rfl 5 (.slice na nn nc))
  have Hrun := Lib.hid hrun
  rw [hvl] at x5 y5
  rw [hvl] at Hrun
  clear hM4 hM5 hM6 h1 h2 e4 HM z0 z1 zb m0 mb hrun hsz
  go_wp2_with (first
    | (at_builtin
       refine wpL_append_run rfl (.tmp 20) (.tmp 24) _ _ rfl rfl rfl Hrun.out ?_)
    | fail)
  refine bodyPost_end (results_none rfl _ _ _) rfl ⟨rfl, ?_⟩
  refine PM.dropEnd (Q := [_]) ⟨vo, _, vr, bc, vm, _, cc, ?_, Hcc.out, HM7.out⟩
  rw [← Hl.out, ← Hcs.out]
  unfold conts
  rw [List.map_set]; rfl
end
end Go.Proofs.Ytmmcjjklmcfegaa

/- A memory that is copied is a memory. -/
namespace Go.Proofs.Ytmmcjjklmcfegaa
open Go.RowKit Go.Shelf
def IsP (bm : Nat) (os : Os) (x : Px) (L : List Ent) : Prop := ∃ vo cs vr bc vm vl cc, conts cs = os ∧ contsC cc = x.cps ∧
  L = boxP bm bc vo vr vm x.filled vl x.times :: rowP vo cs :: rowI 3 vr x.row :: gmap mapIV bc x.made.length (cpF cc) :: rowI 3 vm x.made :: logE 149 vl x.log :: (objsE cs ++ cc.map rowC)
def pMv (bm : Nat) : Value := .iface 111 (.pointer (some ⟨bm, 0, none⟩))
/-- What is always so, with room. -/
def InvP' (s : Sm Px) : Prop := InvQ s ∧ s.x.log.length ≤ 500 ∧ 0 ≤ s.x.times ∧ s.x.times ≤ 500
section
variable {B : Nat} {w0 : World} {bx bm : Nat} {regs : List V} {mv : Value}
theorem pm_of {os : Os} {x : Px} {L T : List Ent} {w : World} (h : IsP bm os x L) (hM : HoldsM B w0 bx regs mv L T w) : PM B w0 bx regs mv bm os x T w := by
  obtain ⟨vo, cs, vr, bc, vm, vl, cc, h1, h2, rfl⟩ := h
  refine ⟨vo, cs, vr, bc, vm, vl, cc, h1, h2, ?_⟩
  have hM2 : Mem B w0 w (pA bx regs mv bm bc x.made.length vo cs vr x.row (cpF cc) vm x.made x.filled vl x.log x.times ++ ((objsE cs ++ cc.map rowC) ++ T)) := hM
  rw [List.append_assoc] at hM2
  exact hM2
theorem pm_to {os : Os} {x : Px} {T : List Ent} {w : World} (h : PM B w0 bx regs mv bm os x T w) : ∃ L, IsP bm os x L ∧ HoldsM B w0 bx regs mv L T w := by
  obtain ⟨vo, cs, vr, bc, vm, vl, cc, h1, h2, h3⟩ := h
  rw [← List.append_assoc] at h3
  refine ⟨_, ⟨vo, cs, vr, bc, vm, vl, cc, h1, h2, rfl⟩, ?_⟩
  have h4 : Mem B w0 w ((pA bx regs mv bm bc x.made.length vo cs vr x.row (cpF cc) vm x.made x.filled vl x.log x.times ++ objsE cs) ++ (cc.map rowC ++ T)) := h3
  refine h4.cast ?_
  rw [List.append_assoc, ← List.append_assoc (objsE cs)]
  rfl
end
set_option maxRecDepth 100000 in
theorem pLen (k bm : Nat) (vo : Value) (w : World) (h : w.cell? ⟨bm, 0, none⟩ = some vo) :
    (method (k + 1) 111 (.pointer (some ⟨bm, 0, none⟩)) "Len").run Try.prog w = .ok (154, vo) w :=
  method_in (S := 115) (X := 74) (E := 101) (by kernel_rfl) (fun _ _ => by kernel_rfl) Try.underlying74 (fun _ => by kernel_rfl) k bm vo w h
set_option maxRecDepth 100000 in
theorem pGet (k bm : Nat) (vo : Value) (w : World) (h : w.cell? ⟨bm, 0, none⟩ = some vo) :
    (method (k + 1) 111 (.pointer (some ⟨bm, 0, none⟩)) "Get").run Try.prog w = .ok (152, vo) w :=
  method_in (S := 115) (X := 74) (E := 101) (by kernel_rfl) (fun _ _ => by kernel_rfl) Try.underlying74 (fun _ => by kernel_rfl) k bm vo w h
theorem pNew (k bm : Nat) (w : World) :
    (method (k + 1) 111 (.pointer (some ⟨bm, 0, none⟩)) "New").run Try.prog w = .ok (161, .pointer (some ⟨bm, 0, none⟩)) w := by kernel_rfl
theorem pPut (k bm : Nat) (w : World) :
    (method (k + 1) 111 (.pointer (some ⟨bm, 0, none⟩)) "Put").run Try.prog w = .ok (162, .pointer (some ⟨bm, 0, none⟩)) w := by kernel_rfl
theorem pHold (k bm : Nat) (w : World) :
    (method (k + 1) 111 (.pointer (some ⟨bm, 0, none⟩)) "Hold").run Try.prog w = .ok (160, .pointer (some ⟨bm, 0, none⟩)) w := by kernel_rfl
theorem pNew_eq (s : Sm Px) (n : Nat) (h : ¬ 24 ≤ s.x.row.length) : pKd.new s n = (⟨s.regs, s.os ++ [some (zerosV n)], { s.x with row := s.x.row ++ [(s.os.length : Int)], cps := s.x.cps ++ [none] }⟩, some (s.os.length : Int)) := by unfold pKd; simp only; rw [if_neg h]
theorem pNew_no (s : Sm Px) (n : Nat) (h : 24 ≤ s.x.row.length) : pKd.new s n = (s, none) := by unfold pKd; simp only; rw [if_pos h]
set_option maxRecDepth 100000 in
theorem pface (B : Nat) (w0 : World) (bx bm : Nat) : Face pKd (IsP bm) InvP' B w0 bx (pMv bm) := by
  refine ⟨fun s h => h.1.fine, fun s v u hI => hI.1.fld, ?_, fun s i k u => rfl, fun s r u => rfl, ?_, ?_, ?_, ?_, ?_, ?_, ?_⟩
  · intro s n
    unfold pKd
    simp only
    split <;> rfl
  · rintro s L i hI hIs hi
    obtain ⟨vo, cs, vr, bc, vm, vl, cc, hc, hcc, rfl⟩ := hIs
    rw [← hc] at hi
    obtain ⟨o, ho, hl⟩ := lives_cs hi
    rw [hc] at hl
    refine ⟨111, _, vo, 154, rfl, fun _ _ => rfl, fun T w h => ?_⟩
    have hM : Mem B w0 w (pA bx s.regs (pMv bm) bm bc s.x.made.length vo cs vr s.x.row (cpF cc) vm s.x.made s.x.filled vl s.x.log s.x.times ++ (objsE cs ++ (cc.map rowC ++ T))) := by
      rw [← List.append_assoc (objsE cs)]; exact h
    refine ⟨fun k => pLen k bm vo w (hM.cell 1 rfl 0), ?_⟩
    have := olen_any B w0 w _ 2 7 vo cs hM (oAt_of (A := pA bx s.regs (pMv bm) bm bc s.x.made.length vo cs vr s.x.row (cpF cc) vm s.x.made s.x.filled vl s.x.log s.x.times) rfl) i.toNat o ho
    rw [hl, Int.toNat_of_nonneg hi.1] at this
    exact this
  · rintro s L i k u hI hIs hi hu
    obtain ⟨vo, cs, vr, bc, vm, vl, cc, hc, hcc, rfl⟩ := hIs
    rw [← hc] at hi
    obtain ⟨o, ho, hl⟩ := lives_cs hi
    rw [hc] at hl
    refine ⟨111, _, vo, 152, rfl, fun _ _ => rfl, fun T w h => ?_⟩
    have hM : Mem B w0 w (pA bx s.regs (pMv bm) bm bc s.x.made.length vo cs vr s.x.row (cpF cc) vm s.x.made s.x.filled vl s.x.log s.x.times ++ (objsE cs ++ (cc.map rowC ++ T))) := by
      rw [← List.append_assoc (objsE cs)]; exact h
    refine ⟨fun k => pGet k bm vo w (hM.cell 1 rfl 0), ?_⟩
    have := oget_any B w0 w _ 2 7 vo cs hM (oAt_of (A := pA bx s.regs (pMv bm) bm bc s.x.made.length vo cs vr s.x.row (cpF cc) vm s.x.made s.x.filled vl s.x.log s.x.times) rfl) i.toNat o ho k u (by rw [hl]; exact hu)
    rw [Int.toNat_of_nonneg hi.1] at this
    exact this
  · intro s L i k u hI hL hi hk hu
    refine ⟨111, _, _, 162, rfl, fun _ _ => rfl, fun T w h => ⟨fun k => pPut k bm w, ?_⟩⟩
    have hi' := Int.toNat_of_nonneg hi.1
    have hp := pput_any B w0 bx s.regs (pMv bm) bm T w s.os s.x i.toNat k u (by rw [hi']; exact hi) (by rw [hi']; exact hk) (by have := hI.2.1; omega) (pm_of hL h)
    rw [hi'] at hp
    refine hp.mono ?_
    rintro e w' ⟨rfl, h2⟩
    exact ⟨rfl, pm_to h2⟩
  · intro s L r u hI hL hr hu
    refine ⟨111, _, _, 160, rfl, fun _ _ => rfl, fun T w h => ⟨fun k => pHold k bm w, ?_⟩⟩
    refine (phold_any B w0 bx s.regs (pMv bm) bm T w s.os s.x r u (pm_of hL h)).mono ?_
    rintro e w' ⟨rfl, h2⟩
    exact ⟨rfl, pm_to h2⟩
  · intro s L n hI hL hn he
    have hr : 24 ≤ s.x.row.length := by
      by_cases hr : 24 ≤ s.x.row.length
      · exact hr
      · rw [pNew_eq s n hr] at he; cases he
    refine ⟨111, _, _, 161, rfl, fun _ _ => rfl, fun T w h => ⟨fun k => pNew k bm w, ?_⟩⟩
    refine (pnew_any B w0 bx s.regs (pMv bm) bm T w s.os s.x n hn (by have := hI.1.len; omega) (by have := hI.1.rowLe; have := hI.1.len; omega) (pm_of hL h)).mono ?_
    intro e w' h2
    obtain ⟨h3, h4⟩ := h2.1 hr
    refine ⟨h3, ?_⟩
    rw [pNew_no s n hr]
    exact pm_to h4
  · intro s L n o hI hL hn he
    have hr : ¬ 24 ≤ s.x.row.length := by
      intro hr
      rw [pNew_no s n hr] at he; cases he
    rw [pNew_eq s n hr] at he ⊢
    cases he
    refine ⟨111, _, _, 161, rfl, fun _ _ => rfl, fun T w h => ⟨fun k => pNew k bm w, ?_⟩⟩
    refine (pnew_any B w0 bx s.regs (pMv bm) bm T w s.os s.x n hn (by have := hI.1.len; omega) (by have := hI.1.rowLe; have := hI.1.len; omega) (pm_of hL h)).mono ?_
    intro e w' h2
    obtain ⟨h3, h4⟩ := h2.2 hr
    exact ⟨h3, pm_to h4⟩
  · intro s n o L1 r hI hn he hL hr8
    refine ⟨111, _, _, 160, rfl, fun _ _ => rfl, fun T w h => ⟨fun k => pHold k bm w, ?_⟩⟩
    refine (phold_any B w0 bx s.regs (pMv bm) bm T w _ _ r ⟨true, o⟩ (pm_of hL h)).mono ?_
    rintro e w' ⟨rfl, h2⟩
    exact ⟨rfl, pm_to h2⟩
end Go.Proofs.Ytmmcjjklmcfegaa

/- replica.Play, walked. -/
namespace Go.Proofs.Ytmmcjjklmcfegaa
open Go.RowKit Go.Shelf
theorem pull4p {m x y z u : Ent} {L Q : List Ent} : (x :: y :: z :: u :: m :: (L ++ Q)).Perm (m :: (L ++ x :: y :: z :: u :: Q)) := (List.Perm.cons _ pull3).trans pull1
def PPlaySays (g : G) (ds : List Dd) (w w' : World) (e : Ending) : Prop :=
  ∃ s vo vt, s = (runs pstep (startP g) ds).1 ∧ e = .returned (.tuple #[.agg #[vo, vt, .int .i64 (s.x.made.length : Int), .int .i64 (s.x.log.length : Int), .int .i64 s.x.times], .int .i64 0]) ∧
    Mem w.heap.size w w' [rowT 89 3 cellsO vo (runs pstep (startP g) ds).2, rowI 3 vt s.x.row]
theorem startP_ok {g : G} {cs : List (Option Oc)} (h : conts cs = g.objs.map some) : conts cs = (startP g).os := h
theorem start_pm {B : Nat} {w0 w : World} {ez em eg er eb ep : Ent} {O R : List Ent} (n : Nat) (h : Mem B w0 w (ez :: em :: eg :: er :: eb :: ep :: (O ++ R))) :
    Mem B w0 w ([em, eb, ep, er, eg, rowI 3 (.slice none 0 0) [], logE 149 (.slice none 0 0) []] ++ (O ++ (List.replicate n enone ++ (ez :: rowT 89 3 cellsO (.slice none 0 0) [] :: R)))) := by
  have h1 := ((h.nilL 149).nil 3 1).nones n
  have h2 := Mem.nilT h1 89 3 cellsO
  obtain ⟨N, hN⟩ : ∃ N, List.replicate n enone = N := ⟨_, rfl⟩
  obtain ⟨a1, ha1⟩ : ∃ a, logE 149 (.slice none 0 0) [] = a := ⟨_, rfl⟩
  obtain ⟨a2, ha2⟩ : ∃ a, rowI 3 (.slice none 0 0) [] = a := ⟨_, rfl⟩
  obtain ⟨a3, ha3⟩ : ∃ a, rowT 89 3 cellsO (.slice none 0 0) [] = a := ⟨_, rfl⟩
  have h3 : Mem B w0 w (a3 :: (N ++ (a2 :: a1 :: ez :: em :: eg :: er :: eb :: ep :: (O ++ R)))) := by rw [← hN, ← ha1, ← ha2, ← ha3]; exact h2
  rw [hN, ha1, ha2, ha3]
  clear h h1 h2 hN ha1 ha2 ha3
  refine h3.perm ?_
  have s1 : (a3 :: (N ++ (a2 :: a1 :: ez :: em :: eg :: er :: eb :: ep :: (O ++ R)))).Perm ([a2, a1, ez, em, eg, er, eb, ep] ++ (O ++ (N ++ (a3 :: R)))) := by
    refine List.Perm.trans (l₂ := a3 :: ([a2, a1, ez, em, eg, er, eb, ep] ++ (O ++ (N ++ R)))) ?_ ?_
    · refine List.Perm.cons _ ?_
      refine (perm3 N [a2, a1, ez, em, eg, er, eb, ep] (O ++ R)).trans ?_
      exact List.Perm.append_left _ (perm3 N O R)
    · refine (perm3 [a3] [a2, a1, ez, em, eg, er, eb, ep] (O ++ (N ++ R))).trans ?_
      refine List.Perm.append_left _ ?_
      refine (perm3 [a3] O (N ++ R)).trans ?_
      exact List.Perm.append_left _ (perm3 [a3] N R)
  have s2 : ([em, eb, ep, er, eg, a2, a1] ++ (O ++ (N ++ (ez :: a3 :: R)))).Perm (ez :: ([em, eb, ep, er, eg, a2, a1] ++ (O ++ (N ++ (a3 :: R))))) := by
    refine List.Perm.symm ?_
    refine (perm3 [ez] [em, eb, ep, er, eg, a2, a1] (O ++ (N ++ (a3 :: R)))).trans ?_
    refine List.Perm.append_left _ ?_
    refine (perm3 [ez] O (N ++ (a3 :: R))).trans ?_
    exact List.Perm.append_left _ (perm3 [ez] N (a3 :: R))
  refine s2.trans (List.Perm.trans ?_ s1.symm)
  obtain ⟨Q, hQ⟩ : ∃ Q, O ++ (N ++ (a3 :: R)) = Q := ⟨_, rfl⟩
  rw [hQ]
  have s3 : ([ez, em, eb, ep, er, eg, a2, a1] : List Ent).Perm [a2, a1, ez, em, eg, er, eb, ep] := by
    have t1 : ([ez, em, eb, ep, er, eg, a2, a1] : List Ent).Perm ([a2, a1] ++ [ez, em, eb, ep, er, eg]) := List.perm_append_comm (l₁ := [ez, em, eb, ep, er, eg]) (l₂ := [a2, a1])
    refine t1.trans (List.Perm.cons _ (List.Perm.cons _ (List.Perm.cons _ (List.Perm.cons _ ?_))))
    have t2 : ([eb, ep, er, eg] : List Ent).Perm ([er, eg] ++ [eb, ep]) := List.perm_append_comm (l₁ := [eb, ep]) (l₂ := [er, eg])
    exact t2.trans (List.Perm.swap _ _ _)
  exact List.Perm.append_right Q s3
set_option maxRecDepth 100000 in
set_option maxHeartbeats 16000000 in
theorem pplay_yes (g : G) (hG : Good g) (v u : Value) (ds : List Dd) (w : World) (hg : IsGraph w v g) (hu : IsTup 5 cellsD w u ds) (hd : ∀ d ∈ ds, DdOk d) (hn : ds.length ≤ 100) :
    Calls Try.prog 32 #[v, u] w fun e w' => PPlaySays g ds w w' e := by
  have Hg := Lib.hid hg
  have HG := Lib.hid hG
  have Hu := Lib.hid hu
  have HD := Lib.hid hd
  obtain ⟨au, cu, rfl, _⟩ := hu.slice
  obtain ⟨vo, vr, rfl, ho, hr⟩ := hg
  obtain ⟨ao, co, rfl, hlo⟩ := ho.slice
  obtain ⟨ar, cr, rfl, hlr⟩ := hr.slice
  have hM0 := ((Mem.start w).alloc #[.slice ao g.objs.length co, .slice ar g.roots.length cr] 25).alloc #[.slice none 0 0, .slice none 0 0, .int .i64 0, .int .i64 0, .int .i64 0] 60
  simp only [World.size_alloc] at hM0
  have HM0 := Lib.hid hM0
  have hn2 : ¬ (100 : Int) < ds.length := by omega
  have hn24 := hG.objs
  clear ho hr hG hu hd hM0
  go_enter Try.func32, Try.ntmps32
  go_wp2_with fail
  refine (gcheck_yes _ g _ (Hg.out.later HM0.out.below) HG.out).mono ?_
  rintro e w1 ⟨rfl, hb1⟩
  have hM1 := HM0.out.call hb1
  have p0 := hM1.cell 1 rfl 0
  have p1 := hM1.cell 1 rfl 1
  have pb := (hM1.box 1 rfl).2.1
  have HM1 := Lib.hid hM1
  clear hM1 hb1 HM0
  go_wp2_with fail
  refine of_cps HG.out Hg.out HM1.out ?_
  intro aO cO cs w2 hcs hM2
  have hgm : ebox w.heap.size #[.slice ao g.objs.length co, .slice ar g.roots.length cr] 25 ∈ (rowP (.slice aO cs.length cO) cs :: (objsE cs ++ [ebox (w.heap.size + 1) #[.slice none 0 0, .slice none 0 0, .int .i64 0, .int .i64 0, .int .i64 0] 60, ebox w.heap.size #[.slice ao g.objs.length co, .slice ar g.roots.length cr] 25])) := by simp
  obtain ⟨R, hR⟩ : ∃ R, [ebox (w.heap.size + 1) #[.slice none 0 0, .slice none 0 0, .int .i64 0, .int .i64 0, .int .i64 0] 60, ebox w.heap.size #[.slice ao g.objs.length co, .slice ar g.roots.length cr] 25] = R := ⟨_, rfl⟩
  have hM2' : Mem w.heap.size w w2 (rowP (.slice aO cs.length cO) cs :: (objsE cs ++ R)) := by rw [← hR]; exact hM2
  have hM3 := hM2'.alloc #[.slice aO cs.length cO, .slice none 0 0, .map none, .slice none 0 0, .int .i64 0, .slice none 0 0, .int .i64 0] 115
  obtain ⟨W3, hW3⟩ : ∃ W3, w2.alloc (.cells #[.slice aO cs.length cO, .slice none 0 0, .map none, .slice none 0 0, .int .i64 0, .slice none 0 0, .int .i64 0] 115) = W3 := ⟨_, rfl⟩
  obtain ⟨bm, hbm⟩ : ∃ bm, w2.heap.size = bm := ⟨_, rfl⟩
  rw [hW3, hbm] at hM3
  have m0 : W3.cell? ⟨bm, 0, none⟩ = some (.slice aO cs.length cO) := hM3.cell 0 rfl 0
  have mb : bm < W3.heap.size := (hM3.box 0 rfl).2.1
  have hcl : cs.length = g.objs.length := by rw [← conts_len, hcs, List.length_map]
  have hth := othere_any w.heap.size w W3 _ 1 2 (.slice aO cs.length cO) cs hM3 (oAt_of (A := [ebox bm #[.slice aO cs.length cO, .slice none 0 0, .map none, .slice none 0 0, .int .i64 0, .slice none 0 0, .int .i64 0] 115, rowP (.slice aO cs.length cO) cs]) (R := R) (kp := 1) (vo := .slice aO cs.length cO) (cs := cs) rfl) (by omega)
  have eth : thereL (conts cs) cs.length = thereL (g.objs.map some) g.objs.length := by rw [hcs, hcl]
  rw [eth] at hth
  have Hth := Lib.hid hth
  have HM3 := Lib.hid hM3
  have HW3 := Lib.hid hW3
  have Hbm := Lib.hid hbm
  have HR := Lib.hid hR
  have Hcs := Lib.hid hcs
  have Hcl := Lib.hid hcl
  clear hM2 hM2' hM3 hth hW3 hbm hR hcs hgm HM1 p0 p1 pb hcl eth
  go_upto_region 7 with (fail)
  rw [HW3.out, Hbm.out]
  go_wp2_with fail
  refine Hth.out.mono ?_
  rintro e w4 ⟨vl, rfl, hMt⟩
  have hM4 := HM3.out.callMem hMt
  obtain ⟨aL, cL, rfl⟩ := hMt.intsSlice 0 rfl
  obtain ⟨TL, hTL⟩ : ∃ TL, thereL (g.objs.map some) g.objs.length = TL := ⟨_, rfl⟩
  rw [hTL] at hM4
  have hM4' : Mem w.heap.size w w4 (rowI 3 (.slice aL TL.length cL) TL :: ebox bm #[.slice aO cs.length cO, .slice none 0 0, .map none, .slice none 0 0, .int .i64 0, .slice none 0 0, .int .i64 0] 115 :: rowP (.slice aO cs.length cO) cs :: (objsE cs ++ R)) := hM4
  have n1 : w4.cell? ⟨bm, 1, none⟩ = some (.slice none 0 0) := hM4'.cell 1 rfl 1
  have nf : w4.frozen? ⟨bm, 1, none⟩ = false := hM4'.free 1 rfl 1
  have nb : bm < w4.heap.size := (hM4'.box 1 rfl).2.1
  have hM5 := hM4'.setBox 1 rfl 1 (.slice aL TL.length cL)
  obtain ⟨W5, hW5⟩ : ∃ W5, w4.setCell ⟨bm, 1, none⟩ (.slice aL TL.length cL) = W5 := ⟨_, rfl⟩
  rw [hW5] at hM5
  have hbg := pbegin_any w.heap.size w bm W5 (.slice aO cs.length cO) (.slice aL TL.length cL) (.map none) (.slice none 0 0) 0 (.slice none 0 0) 0 [rowI 3 (.slice aL TL.length cL) TL] (rowP (.slice aO cs.length cO) cs :: (objsE cs ++ R)) hM5
  have Hbg := Lib.hid hbg
  have HW5 := Lib.hid hW5
  have HTL := Lib.hid hTL
  clear hM4 hM4' hM5 hMt HM3 Hth hbg hW5 m0 mb
  rw [hTL]
  clear hTL
  go_upto_region 8 with (fail)
  rw [HW5.out]
  clear n1 nf nb
  go_wp2_with fail
  refine Hbg.out.mono ?_
  rintro e w6 ⟨rfl, bc, hM6⟩
  have hM6' : Mem w.heap.size w w6 (gmap mapIV bc 0 (fun _ => none) :: rowI 3 (.slice aL TL.length cL) TL :: boxP bm bc (.slice aO cs.length cO) (.slice aL TL.length cL) (.slice none 0 0) 0 (.slice none 0 0) 0 :: rowP (.slice aO cs.length cO) cs :: (objsE cs ++ R)) := hM6
  have hgr : ebox w.heap.size #[.slice ao g.objs.length co, .slice ar g.roots.length cr] 25 ∈ (gmap mapIV bc 0 (fun _ => none) :: rowI 3 (.slice aL TL.length cL) TL :: boxP bm bc (.slice aO cs.length cO) (.slice aL TL.length cL) (.slice none 0 0) 0 (.slice none 0 0) 0 :: rowP (.slice aO cs.length cO) cs :: (objsE cs ++ R)) := by rw [← HR.out]; simp
  have r0 := hM6'.boxCell hgr 0 rfl
  have r1 := hM6'.boxCell hgr 1 rfl
  have rb : w.heap.size < w6.heap.size := (hM6'.boxFree hgr 0).2
  obtain ⟨v0, v1, v2, v3, v4, v5, v6, v7, hv8⟩ := eight (firstR_len HG.out.roots)
  have hrv : regsV (firstR g.roots) = .agg #[.bool v0.ref, .int .i64 v0.n, .bool v1.ref, .int .i64 v1.n, .bool v2.ref, .int .i64 v2.n, .bool v3.ref, .int .i64 v3.n, .bool v4.ref, .int .i64 v4.n, .bool v5.ref, .int .i64 v5.n, .bool v6.ref, .int .i64 v6.n, .bool v7.ref, .int .i64 v7.n] := by rw [hv8]; rfl
  have hFi := first_any g _ w6 (Hg.out.later hM6'.below) HG.out.roots
  rw [hrv] at hFi
  have HFi := Lib.hid hFi
  have Hv8 := Lib.hid hv8
  have HM6 := Lib.hid hM6'
  clear hM6 hM6' hFi hrv hv8 hgr Hbg
  go_wp2_with fail
  refine HFi.out.mono ?_
  rintro e w7 ⟨rfl, hb7⟩
  have hM7 := (HM6.out.call hb7).alloc #[.bool v0.ref, .int .i64 v0.n, .bool v1.ref, .int .i64 v1.n, .bool v2.ref, .int .i64 v2.n, .bool v3.ref, .int .i64 v3.n, .bool v4.ref, .int .i64 v4.n, .bool v5.ref, .int .i64 v5.n, .bool v6.ref, .int .i64 v6.n, .bool v7.ref, .int .i64 v7.n, pMv bm] 87
  have e : mbox w7.heap.size (firstR g.roots) (pMv bm) = ebox w7.heap.size #[.bool v0.ref, .int .i64 v0.n, .bool v1.ref, .int .i64 v1.n, .bool v2.ref, .int .i64 v2.n, .bool v3.ref, .int .i64 v3.n, .bool v4.ref, .int .i64 v4.n, .bool v5.ref, .int .i64 v5.n, .bool v6.ref, .int .i64 v6.n, .bool v7.ref, .int .i64 v7.n, pMv bm] 87 := by unfold mbox mcells; rw [Hv8.out]; rfl
  rw [← e] at hM7
  obtain ⟨bx, hbx⟩ : ∃ bx, w7.heap.size = bx := ⟨_, rfl⟩
  rw [hbx] at hM7
  have hM8 := hM7.alloc #[.slice none 0 0, .slice none 0 0, .int .i64 0, .int .i64 0, .int .i64 0] 60
  obtain ⟨W9, hW9⟩ : ∃ W9, (w7.alloc (.cells #[.bool v0.ref, .int .i64 v0.n, .bool v1.ref, .int .i64 v1.n, .bool v2.ref, .int .i64 v2.n, .bool v3.ref, .int .i64 v3.n, .bool v4.ref, .int .i64 v4.n, .bool v5.ref, .int .i64 v5.n, .bool v6.ref, .int .i64 v6.n, .bool v7.ref, .int .i64 v7.n, .iface 111 (.pointer (some ⟨bm, 0, none⟩))] 87)).alloc (.cells #[.slice none 0 0, .slice none 0 0, .int .i64 0, .int .i64 0, .int .i64 0] 60) = W9 := ⟨_, rfl⟩
  obtain ⟨b9, hb9⟩ : ∃ b9, bx + 1 = b9 := ⟨_, rfl⟩
  have hsz : (w7.alloc (.cells #[.bool v0.ref, .int .i64 v0.n, .bool v1.ref, .int .i64 v1.n, .bool v2.ref, .int .i64 v2.n, .bool v3.ref, .int .i64 v3.n, .bool v4.ref, .int .i64 v4.n, .bool v5.ref, .int .i64 v5.n, .bool v6.ref, .int .i64 v6.n, .bool v7.ref, .int .i64 v7.n, pMv bm] 87)).heap.size = b9 := by rw [World.size_alloc, hbx, hb9]
  rw [hsz] at hM8
  have hM9 : Mem w.heap.size w W9 (ebox b9 #[.slice none 0 0, .slice none 0 0, .int .i64 0, .int .i64 0, .int .i64 0] 60 :: mbox bx (firstR g.roots) (pMv bm) :: gmap mapIV bc 0 (fun _ => none) :: rowI 3 (.slice aL TL.length cL) TL :: boxP bm bc (.slice aO cs.length cO) (.slice aL TL.length cL) (.slice none 0 0) 0 (.slice none 0 0) 0 :: rowP (.slice aO cs.length cO) cs :: (objsE cs ++ R)) := hW9 ▸ hM8
  have hPM : PM w.heap.size w bx (firstR g.roots) (pMv bm) bm (startP g).os (startP g).x (ebox b9 #[.slice none 0 0, .slice none 0 0, .int .i64 0, .int .i64 0, .int .i64 0] 60 :: rowT 89 3 cellsO (.slice none 0 0) [] :: R) W9 := by
    refine ⟨.slice aO cs.length cO, cs, .slice aL TL.length cL, bc, .slice none 0 0, .slice none 0 0, List.replicate g.objs.length none, Hcs.out, contsC_nones _, ?_⟩
    have e1 : thereL (g.objs.map some) g.objs.length = TL := HTL.out
    show Mem w.heap.size w W9 ([mbox bx (firstR g.roots) (pMv bm), boxP bm bc (.slice aO cs.length cO) (.slice aL TL.length cL) (.slice none 0 0) 0 (.slice none 0 0) 0, rowP (.slice aO cs.length cO) cs, rowI 3 (.slice aL TL.length cL) (thereL (g.objs.map some) g.objs.length), gmap mapIV bc 0 (cpF (List.replicate g.objs.length none)), rowI 3 (.slice none 0 0) [], logE 149 (.slice none 0 0) []] ++ (objsE cs ++ ((List.replicate g.objs.length none).map rowC ++ (ebox b9 #[.slice none 0 0, .slice none 0 0, .int .i64 0, .int .i64 0, .int .i64 0] 60 :: rowT 89 3 cellsO (.slice none 0 0) [] :: R))))
    rw [e1, cpF_nones, rowC_nones]
    exact start_pm _ hM9
  obtain ⟨L0, hL0, hM1⟩ := pm_to hPM
  have hIs : IsP bm (runs pstep (startP g) (ds.take 0)).1.os (runs pstep (startP g) (ds.take 0)).1.x L0 := hL0
  have HM1 := Lib.hid hM1
  have HIs := Lib.hid hIs
  have Hb9 := Lib.hid (And.intro hbx hb9)
  have HW9 := Lib.hid hW9
  clear hM1 hPM hL0 hIs hb9 hW9 hM7 hM8 hM9 hbx hsz e HM6 HFi hb7 r0 r1 rb
  go_upto_region 11 with (fail)
  rw [HW9.out, Hb9.out.1, Hb9.out.2]
  go_wp2_with fail
  go_loopw [11, 12, 45] (fun _ _ s45 wq => ∃ (k : Nat) (L : List Ent) (vU : Value), k ≤ ds.length ∧ s45 = .int .i64 (k : Int) ∧ Hid (IsP bm (runs pstep (startP g) (ds.take k)).1.os (runs pstep (startP g) (ds.take k)).1.x L) ∧ HoldsM w.heap.size w bx (runs pstep (startP g) (ds.take k)).1.regs (pMv bm) L (ebox b9 #[vU, .slice none 0 0, .int .i64 0, .int .i64 0, .int .i64 0] 60 :: rowT 89 3 cellsO vU (runs pstep (startP g) (ds.take k)).2 :: R) wq) (fun _ _ i _ => ds.length - (intOf i).toNat)
  case atStart => exact ⟨0, _, _, Nat.zero_le _, rfl, HIs, HM1.out⟩
  case round =>
    clear HM1 HIs
    obtain ⟨k, L, vU, hk, rfl, hIs, hM⟩ := hrel
    by_cases hltd : k < ds.length
    · obtain ⟨d, hd⟩ := get_some _ _ hltd
      obtain ⟨bu, off, cap, hv, _, hb2, hc⟩ := Hu.out.at (Mem.below hM) hd
      cases hv
      obtain ⟨hI, hol, hlg, hti0, hti⟩ := runsP_inv HG.out k ds hk (by omega)
      have HS := Lib.hid (runs_take pstep (startP g) hd)
      obtain ⟨S, hS⟩ : ∃ S, runs pstep (startP g) (ds.take k) = S := ⟨_, rfl⟩
      have hSl : S.2.length = k := by rw [← hS, runs_len, List.length_take]; omega
      rw [hS] at hI hol hM hIs HS hti hti0 hlg
      have hdo := HD.out d (List.mem_of_getElem? hd)
      obtain ⟨dk, dt, df, da, dn⟩ := d
      have c0 : wr.cell? ⟨bu, off + k * 5, none⟩ = some (.int .i64 dk) := hc 0 _ rfl
      have c1 : wr.cell? ⟨bu, off + k * 5 + 1, none⟩ = some (.int .i64 dt) := hc 1 _ rfl
      have c2 : wr.cell? ⟨bu, off + k * 5 + 2, none⟩ = some (.int .i64 df) := hc 2 _ rfl
      have c3 : wr.cell? ⟨bu, off + k * 5 + 3, none⟩ = some (.int .i64 da) := hc 3 _ rfl
      have c4 : wr.cell? ⟨bu, off + k * 5 + 4, none⟩ = some (.int .i64 dn) := hc 4 _ rfl
      have hMa := Mem.tuck (Mem.alloc (Mem.tuck (Mem.alloc hM #[.int .i64 dk, .int .i64 dt, .int .i64 df, .int .i64 da, .int .i64 dn] 58)) #[.int .i64 0, .bool false, .int .i64 0] 89)
      simp only [World.size_alloc] at hMa
      obtain ⟨W6, hW6⟩ : ∃ W6, (wr.alloc (.cells #[.int .i64 dk, .int .i64 dt, .int .i64 df, .int .i64 da, .int .i64 dn] 58)).alloc (.cells #[.int .i64 0, .bool false, .int .i64 0] 89) = W6 := ⟨_, rfl⟩
      obtain ⟨b14, hb14⟩ : ∃ b14, wr.heap.size = b14 := ⟨_, rfl⟩
      rw [hW6, hb14] at hMa
      obtain ⟨aU, nU, cU, rfl⟩ := Mem.sliceIn (v := vU) (e := 89) (sz := 3) (n := S.2.length) (xs := S.2.flatMap cellsO) hMa (by show rowT 89 3 cellsO vU S.2 ∈ _; simp)
      have hMa2 : HoldsM w.heap.size w bx S.1.regs (pMv bm) L (ebox (b14 + 1) #[.int .i64 0, .bool false, .int .i64 0] 89 :: ebox b14 #[.int .i64 dk, .int .i64 dt, .int .i64 df, .int .i64 da, .int .i64 dn] 58 :: ebox b9 #[.slice aU nU cU, .slice none 0 0, .int .i64 0, .int .i64 0, .int .i64 0] 60 :: rowT 89 3 cellsO (.slice aU nU cU) S.2 :: R) W6 := hMa
      have hMp := Mem.perm hMa pull4p
      have d0 := hMp.cell 1 rfl 0
      have d1 := hMp.cell 1 rfl 1
      have d2 := hMp.cell 1 rfl 2
      have d3 := hMp.cell 1 rfl 3
      have d4 := hMp.cell 1 rfl 4
      have dsz := (hMp.box 1 rfl).2.1
      have hkd : (k : Int) < (ds.length : Int) := by omega
      have hk1000 : S.2.length ≤ 1000000 := by omega
      have HW6 := Lib.hid hW6
      have Hb14 := Lib.hid hb14
      have HMa := Lib.hid hMa2
      have HI := Lib.hid (show InvP' S.1 from ⟨hI, by omega, hti0, by omega⟩)
      have HIs := Lib.hid hIs.out
      clear hc hd hM hMa hMa2 hIs hS hMp hW6 hb14 hI hol hti hti0 hlg
      by_cases e8 : dk = 8
      · subst e8
        obtain ⟨y0, y1, y2, y3, y4, y5, y6, y7, hy8⟩ := eight HI.out.1.fine.regs8
        have hrv9 : regsV S.1.regs = .agg #[.bool y0.ref, .int .i64 y0.n, .bool y1.ref, .int .i64 y1.n, .bool y2.ref, .int .i64 y2.n, .bool y3.ref, .int .i64 y3.n, .bool y4.ref, .int .i64 y4.n, .bool y5.ref, .int .i64 y5.n, .bool y6.ref, .int .i64 y6.n, .bool y7.ref, .int .i64 y7.n] := by rw [hy8]; rfl
        have em : mbox bx S.1.regs (pMv bm) = ebox bx #[.bool y0.ref, .int .i64 y0.n, .bool y1.ref, .int .i64 y1.n, .bool y2.ref, .int .i64 y2.n, .bool y3.ref, .int .i64 y3.n, .bool y4.ref, .int .i64 y4.n, .bool y5.ref, .int .i64 y5.n, .bool y6.ref, .int .i64 y6.n, .bool y7.ref, .int .i64 y7.n, pMv bm] 87 := by unfold mbox mcells; rw [hy8]; rfl
        have hMb := HMa.out
        unfold HoldsM at hMb
        rw [em] at hMb
        have k0 := hMb.cell 0 rfl 0
        have k1 := hMb.cell 0 rfl 1
        have k2 := hMb.cell 0 rfl 2
        have k3 := hMb.cell 0 rfl 3
        have k4 := hMb.cell 0 rfl 4
        have k5 := hMb.cell 0 rfl 5
        have k6 := hMb.cell 0 rfl 6
        have k7 := hMb.cell 0 rfl 7
        have k8 := hMb.cell 0 rfl 8
        have k9 := hMb.cell 0 rfl 9
        have k10 := hMb.cell 0 rfl 10
        have k11 := hMb.cell 0 rfl 11
        have k12 := hMb.cell 0 rfl 12
        have k13 := hMb.cell 0 rfl 13
        have k14 := hMb.cell 0 rfl 14
        have k15 := hMb.cell 0 rfl 15
        have kb := (hMb.box 0 rfl).2.1
        have hwk := work_any w.heap.size w bx S.1.regs (pMv bm) bm _ W6 S.1.regs S.1.os S.1.x HI.out.1.fine.regs8 HI.out.1 (by have := HI.out.2.1; omega) ⟨HI.out.2.2.1, by have := HI.out.2.2.2; omega⟩ (pm_of HIs.out HMa.out)
        rw [hrv9] at hwk
        have hS2 : pstep S.1 ⟨8, dt, df, da, dn⟩ = (workP S.1, ⟨0, false, 0⟩) := by
          unfold pstep
          rw [if_pos rfl]
        have Hwk := Lib.hid hwk
        have HSt := Lib.hid hS2
        have Hreg := Lib.hid (workP_regs S.1)
        clear hwk hS2 hdo hMb em hrv9 hy8
        go_upto_region 16 with (fail)
        rw [HW6.out, Hb14.out]
        go_wp2_with fail
        refine Hwk.out.mono ?_
        rintro e w7 ⟨rfl, h7⟩
        obtain ⟨L', hIs2, hM2⟩ := pm_to h7
        rw [← Hreg.out] at hM2
        have hM8 := Mem.perm hM2 pull4p
        have z0 := hM8.cell 0 rfl 0
        have z1 := hM8.cell 0 rfl 1
        have z2 := hM8.cell 0 rfl 2
        have zb := (hM8.box 0 rfl).2.1
        have x0 := hM8.cell 2 rfl 0
        have xb := (hM8.box 2 rfl).2.1
        have HM8 := Lib.hid hM8
        have HIs2 : Hid (IsP bm (workP S.1).os (workP S.1).x L') := Lib.hid hIs2
        clear hM8 hIs2 hM2 h7 Hwk k0 k1 k2 k3 k4 k5 k6 k7 k8 k9 k10 k11 k12 k13 k14 k15 kb
        go_upto_region 18 with (fail)
        go_wp2_with (at_builtin; refine Mem.wp_appT elemOuts rfl (.tmp 63) (.tmp 65) rfl HM8.out 3 rfl rfl _ (⟨0, false, 0⟩ : Ot) #[.int .i64 0, .bool false, .int .i64 0] rfl _ _ rfl (by simp) rfl rfl (by decide) hk1000 ?_; intro ad n1 cp w9 hn1 hM9 hs9 hk9 ha9; have u0 := hM9.cell 2 rfl 0; have u1 := hM9.free 2 rfl 0; have u2 := (hM9.box 2 rfl).2.1; have hM10 := Lib.hid (hM9.setBox 2 rfl 0 (.slice ad n1 cp)); clear hM9)
        go_roundw
        case rel =>
          refine ⟨k + 1, L', .slice ad n1 cp, by omega, by go_num, ?_, ?_⟩
          · refine Lib.hid ?_
            rw [HS.out, HSt.out]; exact HIs2.out
          · rw [HS.out, HSt.out]
            exact Mem.perm (hM10.out.drop ((List.sublist_cons_self _ _).trans (List.sublist_cons_self _ _))) pull2.symm
        case measure => simp [intOf]; omega
      · have e8b : (dk == 8) = false := by simpa using e8
        have hstep : pstep S.1 ⟨dk, dt, df, da, dn⟩ = pKd.step S.1 ⟨dk, dt, df, da, dn⟩ := by unfold pstep; rw [if_neg e8]
        have hDo := do_any (pface w.heap.size w bx bm) S.1 HI.out ⟨dk, dt, df, da, dn⟩ hdo L _ HIs.out _ HMa.out
        obtain ⟨S2, hS2⟩ : ∃ S2, pKd.step S.1 ⟨dk, dt, df, da, dn⟩ = S2 := ⟨_, rfl⟩
        unfold DoSays at hDo
        rw [hS2] at hDo hstep
        have HDo := Lib.hid hDo
        have HSt := Lib.hid hstep
        clear hDo hS2 hstep hdo
        go_upto_region 17 with (fail)
        rw [HW6.out, Hb14.out]
        go_wp2_with fail
        refine HDo.out.mono ?_
        rintro e w7 ⟨rfl, L', hIs2, hM2⟩
        obtain ⟨s2, oc, orf, on⟩ := S2
        simp only [otV]
        have hS2 := HSt.out
        have hM7 := Mem.perm hM2 pull4p
        have q0 := hM7.cell 0 rfl 0
        have q1 := hM7.cell 0 rfl 1
        have q2 := hM7.cell 0 rfl 2
        have qf0 := hM7.free 0 rfl 0
        have qf1 := hM7.free 0 rfl 1
        have qf2 := hM7.free 0 rfl 2
        have qb := (hM7.box 0 rfl).2.1
        have hM8 := ((hM7.setBox 0 rfl 0 (.int .i64 oc)).setBox 0 rfl 1 (.bool orf)).setBox 0 rfl 2 (.int .i64 on)
        obtain ⟨W8, hW8⟩ : ∃ W8, ((w7.setCell ⟨b14 + 1, 0, none⟩ (.int .i64 oc)).setCell ⟨b14 + 1, 1, none⟩ (.bool orf)).setCell ⟨b14 + 1, 2, none⟩ (.int .i64 on) = W8 := ⟨_, rfl⟩
        rw [hW8] at hM8
        have y0 := hM8.cell 0 rfl 0
        have y1 := hM8.cell 0 rfl 1
        have y2 := hM8.cell 0 rfl 2
        have yb := (hM8.box 0 rfl).2.1
        have x0 := hM8.cell 2 rfl 0
        have xb := (hM8.box 2 rfl).2.1
        have HM8 := Lib.hid hM8
        have HW8 := Lib.hid hW8
        have HIs2 := Lib.hid hIs2
        have HS2 := Lib.hid hS2
        clear hM8 hW8 hIs2 hS2 hM2 hM7
        go_upto_region 18 with (fail)
        rw [HW8.out]
        go_wp2_with (at_builtin; refine Mem.wp_appT elemOuts rfl (.tmp 63) (.tmp 65) rfl HM8.out 3 rfl rfl _ (⟨oc, orf, on⟩ : Ot) #[.int .i64 oc, .bool orf, .int .i64 on] rfl _ _ rfl (by simp) rfl rfl (by decide) hk1000 ?_; intro ad n1 cp w9 hn1 hM9 hs9 hk9 ha9; have u0 := hM9.cell 2 rfl 0; have u1 := hM9.free 2 rfl 0; have u2 := (hM9.box 2 rfl).2.1; have hM10 := Lib.hid (hM9.setBox 2 rfl 0 (.slice ad n1 cp)); clear hM9)
        go_roundw
        case rel =>
          refine ⟨k + 1, L', .slice ad n1 cp, by omega, by go_num, ?_, ?_⟩
          · refine Lib.hid ?_
            rw [HS.out, HS2.out]; exact HIs2.out
          · rw [HS.out, HS2.out]
            exact Mem.perm (hM10.out.drop ((List.sublist_cons_self _ _).trans (List.sublist_cons_self _ _))) pull2.symm
        case measure => simp [intOf]; omega
    · obtain rfl : k = ds.length := by omega
      rw [List.take_length] at hIs hM
      obtain ⟨S, hS⟩ : ∃ S, runs pstep (startP g) ds = S := ⟨_, rfl⟩
      rw [hS] at hIs hM
      have hPM := pm_of hIs.out hM
      obtain ⟨vo2, cs2, vr2, bc2, vm2, vl2, cc2, _, _, hMe⟩ := hPM
      obtain ⟨ra, rc, rfl⟩ := hMe.intsSlice 3 rfl
      obtain ⟨ma, mc, rfl⟩ := hMe.intsSlice 5 rfl
      obtain ⟨la, lc, rfl, _⟩ := hMe.logSlice 6 rfl
      obtain ⟨tm, htm⟩ : ∃ tm, S.1.x.times = tm := ⟨_, rfl⟩
      rw [htm] at hMe
      have m1 : wr.cell? ⟨bm, 1, none⟩ = some (.slice ra S.1.x.row.length rc) := hMe.cell 1 rfl 1
      have m3 : wr.cell? ⟨bm, 3, none⟩ = some (.slice ma S.1.x.made.length mc) := hMe.cell 1 rfl 3
      have m5 : wr.cell? ⟨bm, 5, none⟩ = some (.slice la S.1.x.log.length lc) := hMe.cell 1 rfl 5
      have m6 : wr.cell? ⟨bm, 6, none⟩ = some (.int .i64 tm) := hMe.cell 1 rfl 6
      have mb : bm < wr.heap.size := (hMe.box 1 rfl).2.1
      have hMu : Mem w.heap.size w wr (rowI 3 (.slice ra S.1.x.row.length rc) S.1.x.row :: ebox b9 #[vU, .slice none 0 0, .int .i64 0, .int .i64 0, .int .i64 0] 60 :: rowT 89 3 cellsO vU S.2 :: R) := by
        refine hMe.drop ?_
        refine .cons _ (.cons _ (.cons _ (.cons_cons _ (.cons _ (.cons _ (.cons _ ?_))))))
        exact (List.sublist_append_right _ _).trans (List.sublist_append_right _ _)
      obtain ⟨ao9, no9, co9, rfl⟩ := hMu.isSlice 2 rfl
      have hmem : ebox b9 #[.slice ao9 no9 co9, .slice none 0 0, .int .i64 0, .int .i64 0, .int .i64 0] 60 ∈ objsE cs2 ++ (cc2.map rowC ++ (ebox b9 #[.slice ao9 no9 co9, .slice none 0 0, .int .i64 0, .int .i64 0, .int .i64 0] 60 :: rowT 89 3 cellsO (.slice ao9 no9 co9) S.2 :: R)) := List.mem_append_right _ (List.mem_append_right _ (List.mem_cons_self ..))
      have hp2 := (List.pairwise_append.1 hMe.apart).2.2
      have hne1 : bm ≠ b9 := fun e => hp2 _ (List.mem_cons_of_mem _ (List.mem_cons_self ..)) _ hmem bm rfl (by rw [e]; rfl)
      have u0 := hMu.cell 1 rfl 0
      have u1 := hMu.cell 1 rfl 1
      have u2 := hMu.cell 1 rfl 2
      have u3 := hMu.cell 1 rfl 3
      have u4 := hMu.cell 1 rfl 4
      have uf1 := hMu.free 1 rfl 1
      have uf2 := hMu.free 1 rfl 2
      have uf3 := hMu.free 1 rfl 3
      have uf4 := hMu.free 1 rfl 4
      have ub := (hMu.box 1 rfl).2.1
      have hMf : Mem w.heap.size w (((((wr.setCell ⟨b9, 1, none⟩ (.slice ra S.1.x.row.length rc)).setCell ⟨b9, 2, none⟩ (.int .i64 (S.1.x.made.length : Int))).setCell ⟨b9, 3, none⟩ (.int .i64 (S.1.x.log.length : Int))).setCell ⟨b9, 4, none⟩ (.int .i64 tm)).drew) (rowI 3 (.slice ra S.1.x.row.length rc) S.1.x.row :: ebox b9 #[.slice ao9 no9 co9, .slice ra S.1.x.row.length rc, .int .i64 (S.1.x.made.length : Int), .int .i64 (S.1.x.log.length : Int), .int .i64 tm] 60 :: rowT 89 3 cellsO (.slice ao9 no9 co9) S.2 :: R) :=
        ((((hMu.setBox 1 rfl 1 (.slice ra S.1.x.row.length rc)).setBox 1 rfl 2 (.int .i64 (S.1.x.made.length : Int))).setBox 1 rfl 3 (.int .i64 (S.1.x.log.length : Int))).setBox 1 rfl 4 (.int .i64 tm)).drew
      have HMf := Lib.hid hMf
      have HS := Lib.hid hS
      have Htm := Lib.hid htm
      clear hM hMe hMu hIs hS hp2 hmem htm hMf Hu HD HW9 hltd
      go_wp2_with fail
      go_cut [] (fun W => Mem w.heap.size w W (rowI 3 (.slice ra S.1.x.row.length rc) S.1.x.row :: ebox b9 #[.slice ao9 no9 co9, .slice ra S.1.x.row.length rc, .int .i64 (S.1.x.made.length : Int), .int .i64 (S.1.x.log.length : Int), .int .i64 tm] 60 :: rowT 89 3 cellsO (.slice ao9 no9 co9) S.2 :: R))
      case first =>
        go_big_region
        all_goals
          clear m1 m3 m5 m6 mb u0 u1 u2 u3 u4 uf1 uf2 uf3 uf4 ub hne1
          go_wp2_with fail
          go_meet
          exact HMf.out
      case rest =>
        have hM5 := hcut
        rw [← HR.out] at hM5
        clear m1 m3 m5 m6 mb u0 u1 u2 u3 u4 uf1 uf2 uf3 uf4 ub hne1 HMf hcut
        have z0 := hM5.cell 1 rfl 0
        have z1 := hM5.cell 1 rfl 1
        have z2 := hM5.cell 1 rfl 2
        have z3 := hM5.cell 1 rfl 3
        have z4 := hM5.cell 1 rfl 4
        have zb := (hM5.box 1 rfl).2.1
        have q0 := hM5.cell 3 rfl 0
        have q1 := hM5.cell 3 rfl 1
        have q2 := hM5.cell 3 rfl 2
        have q3 := hM5.cell 3 rfl 3
        have q4 := hM5.cell 3 rfl 4
        have qf0 := hM5.free 3 rfl 0
        have qf1 := hM5.free 3 rfl 1
        have qf2 := hM5.free 3 rfl 2
        have qf3 := hM5.free 3 rfl 3
        have qf4 := hM5.free 3 rfl 4
        have qb := (hM5.box 3 rfl).2.1
        have hM7 := ((((hM5.setBox 3 rfl 0 (.slice ao9 no9 co9)).setBox 3 rfl 1 (.slice ra S.1.x.row.length rc)).setBox 3 rfl 2 (.int .i64 (S.1.x.made.length : Int))).setBox 3 rfl 3 (.int .i64 (S.1.x.log.length : Int))).setBox 3 rfl 4 (.int .i64 tm)
        obtain ⟨W7, hW7⟩ : ∃ W7, (((((wc.setCell ⟨w.heap.size + 1, 0, none⟩ (.slice ao9 no9 co9)).setCell ⟨w.heap.size + 1, 1, none⟩ (.slice ra S.1.x.row.length rc)).setCell ⟨w.heap.size + 1, 2, none⟩ (.int .i64 (S.1.x.made.length : Int))).setCell ⟨w.heap.size + 1, 3, none⟩ (.int .i64 (S.1.x.log.length : Int))).setCell ⟨w.heap.size + 1, 4, none⟩ (.int .i64 tm)) = W7 := ⟨_, rfl⟩
        rw [hW7] at hM7
        have s0 : W7.cell? ⟨w.heap.size + 1, 0, none⟩ = some (.slice ao9 no9 co9) := hM7.cell 3 rfl 0
        have s1 : W7.cell? ⟨w.heap.size + 1, 1, none⟩ = some (.slice ra S.1.x.row.length rc) := hM7.cell 3 rfl 1
        have s2 : W7.cell? ⟨w.heap.size + 1, 2, none⟩ = some (.int .i64 (S.1.x.made.length : Int)) := hM7.cell 3 rfl 2
        have s3 : W7.cell? ⟨w.heap.size + 1, 3, none⟩ = some (.int .i64 (S.1.x.log.length : Int)) := hM7.cell 3 rfl 3
        have s4 : W7.cell? ⟨w.heap.size + 1, 4, none⟩ = some (.int .i64 tm) := hM7.cell 3 rfl 4
        have hlast : Mem w.heap.size w W7 [rowT 89 3 cellsO (.slice ao9 no9 co9) S.2, rowI 3 (.slice ra S.1.x.row.length rc) S.1.x.row] :=
          (hM7.drop (L' := [rowI 3 (.slice ra S.1.x.row.length rc) S.1.x.row, rowT 89 3 cellsO (.slice ao9 no9 co9) S.2]) (.cons_cons _ (.cons _ (.cons_cons _ (List.nil_sublist _))))).perm (List.Perm.swap _ _ _)
        have HL := Lib.hid hlast
        have HW7 := Lib.hid hW7
        clear hM5 hM7 hlast hW7
        go_wp2
        rw [HW7.out]
        refine bodyPost_ret (v := .tuple #[.agg #[.slice ao9 no9 co9, .slice ra S.1.x.row.length rc, .int .i64 (S.1.x.made.length : Int), .int .i64 (S.1.x.log.length : Int), .int .i64 tm], .int .i64 0]) (by simp [results, Try.results32, go_sem, s0, s1, s2, s3, s4]) rfl ?_
        refine ⟨S.1, _, _, by rw [HS.out], by rw [Htm.out], ?_⟩
        rw [HS.out]; exact HL.out
end Go.Proofs.Ytmmcjjklmcfegaa
