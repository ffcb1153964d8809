/- Buddies: Play, walked. -/
import Derived.Test.YtmbcfbehchpfbaaXk
import Derived.Test.YtmbcfbehchpfbaaUm
namespace Go.Proofs.Ytmbcfbehchpfbaa
open Go.RowKit

def BPlaySays (lev : Nat) (l : List (Int × Int)) (w : World) (e : Ending) (w' : World) : Prop :=
  ∃ cv av fv, e = .returned (.tuple #[.agg #[cv, av, fv], .int .i64 0]) ∧ Mem w.heap.size w w' [rowI 28 cv (codesB lev l l.length), rowI 3 av (atsB lev l l.length), rowB fv (freeB lev (stateB lev l l.length).fr)]
/-- The loads of out.Codes and out.At, under names of their own. -/
def ldC2 : Op := Op.load 23 (Operand.tmp 37)
theorem ldC2_eq : Op.load 23 (Operand.tmp 37) = ldC2 := rfl
def ldA2 : Op := Op.load 24 (Operand.tmp 42)
theorem ldA2_eq : Op.load 24 (Operand.tmp 42) = ldA2 := rfl
attribute [local go_sem] ldC2 ldA2
set_option maxRecDepth 100000 in
set_option maxHeartbeats 2000000 in
theorem bplay_yes (lev : Nat) (hs2 : lev ≤ 7) (v : Value) (l : List (Int × Int)) (w : World) (hl : IsTup 2 encA w v l) (hl100 : l.length ≤ 100) (h64 : ∀ a ∈ l, i64ok a.1 ∧ i64ok a.2) :
    Calls Try.prog 19 #[.int .i64 (lev : Int), v] w (BPlaySays lev l w) := by
  have Hl := Lib.hid hl
  obtain ⟨al, cl, rfl, hlm⟩ := hl.slice
  have hM0 := (Mem.start w).alloc #[.slice none 0 0, .slice none 0 0, .slice none 0 0] 27
  have HM0 := Lib.hid hM0
  have q1 : decide ((lev : Int) < 0) = false := decide_eq_false (by omega)
  have q2 : decide ((lev : Int) > 7) = false := decide_eq_false (by omega)
  have q2n : decide (7 < lev) = false := decide_eq_false (by omega)
  have q3 : decide ((l.length : Int) > 100) = false := decide_eq_false (by omega)
  clear hl hM0
  go_enter Try.func19, Try.ntmps19
  go_wp2_with fail
  with_reducible refine (open_any lev hs2 _).mono ?_
  rintro e w1 ⟨By, bt, bs, c0, rfl, hc0, hM1⟩
  have hM2 := HM0.out.callMem hM1
  have hM3 := ((hM2.alloc #[.slice none 0 0, .slice none 0 0, .slice none 0 0] 27).nilI 28).nilI 3
  have hM4 : Mem w.heap.size w (w1.alloc (.cells #[.slice none 0 0, .slice none 0 0, .slice none 0 0] 27)) (ownY By bt lev bs c0 (stateB lev l 0) ++ outF w1.heap.size w.heap.size (.slice none 0 0) (.slice none 0 0) (codesB lev l 0) (atsB lev l 0)) := hM3.pick0 [3, 4, 5, 6, 7, 8, 9, 10, 11, 12, 2, 1, 0, 13] (by decide) rfl
  have HM4 := Lib.hid hM4
  obtain ⟨bo, hbo⟩ : ∃ bo, w1.heap.size = bo := ⟨_, rfl⟩
  rw [hbo] at HM4
  have Hbo := Lib.hid hbo
  have HC0 := Lib.hid hc0
  clear hM1 hM2 hM3 hM4 HM0 hbo hc0
  go_wp2
  rw [Hbo.out]
  go_loopw [27] (fun i wr => ∃ (k : Nat) (c : Nat → Nat) (cv av : Value), k ≤ l.length ∧ (∀ j, c j ≤ 1 + 8 * k) ∧ i = .int .i64 (k : Int) ∧ Mem w.heap.size w wr (ownY By bt lev bs c (stateB lev l k) ++ outF bo w.heap.size cv av (codesB lev l k) (atsB lev l k))) (fun i _ => l.length - (intOf i).toNat)
  case atStart => exact ⟨0, c0, _, _, Nat.zero_le _, (fun j => by have := HC0.out j; omega), rfl, HM4.out⟩
  case round =>
    clear HM4 HC0
    obtain ⟨k, c, cv, av, hk, hcc, rfl, hM⟩ := hrel
    by_cases hlt : k < l.length
    · obtain ⟨a, ha⟩ := get_some _ _ hlt
      obtain ⟨bl, ol, cl2, hv, _, z1, hc⟩ := Hl.out.at hM.below ha
      cases hv
      have d0 := hc 0 _ rfl
      have d1 := hc 1 _ rfl
      rw [Nat.add_zero] at d0
      have hcode := codeB_at (lev := lev) ha
      have hat := atB_at (lev := lev) ha
      have hnext := stateB_succ (lev := lev) ha
      have h64a := h64 a (List.mem_of_getElem? ha)
      have Hcl : Hid ((codesB lev l k).length ≤ 1000000) := Lib.hid (by rw [codesB_len]; omega)
      have Hal : Hid ((atsB lev l k).length ≤ 1000000) := Lib.hid (by rw [atsB_len]; omega)
      have HM := hM.alloc_ (.cells #[.int .i64 a.1, .int .i64 a.2] 36)
      have HA := Lib.hid (ask_any w.heap.size w _ By bt lev hs2 bs c (1 + 8 * k) hcc (by omega) (stateB lev l k) (ownB lev l k) k (buddyInv hs2 l k hk) a h64a _ HM)
      obtain ⟨s', cd, p, hst⟩ : ∃ s' cd p, stepB lev (stateB lev l k) a = (s', cd, p) := ⟨_, _, _, rfl⟩
      rw [hst] at HA hcode hat hnext
      have Hcode := Lib.hid hcode
      have Hat := Lib.hid hat
      have Hnext := Lib.hid hnext
      clear hM HM hc hcode hat hnext hst hcc
      go_wp2_with fail
      with_reducible refine HA.out.mono ?_
      rintro e wc ⟨rfl, c2, hc2, hM⟩
      simp only [] at hM
      have HC2 := Lib.hid hc2
      have HN := Lib.hid hM
      obtain ⟨aC, nC, cC, rfl⟩ := own_slice (hM.row 11 rfl)
      obtain ⟨aA, nA, cA, rfl⟩ := own_slice (hM.row 12 rfl)
      have t0 : wc.cell? ⟨bo, 0, none⟩ = some (.slice aC nC cC) := by have := hM.cell 10 rfl 0; simpa using this
      have t1 : wc.cell? ⟨bo, 1, none⟩ = some (.slice aA nA cA) := by have := hM.cell 10 rfl 1; simpa using this
      have tz : bo < wc.heap.size := (hM.box 10 rfl).2.1
      clear hM hc2 HA h64a d0 d1
      go_wp2
      rw [ldC2_eq, ldA2_eq]
      have hC2 : codesB lev l (k + 1) = codesB lev l k ++ [cd] := by rw [codesB_succ, Hcode.out]
      have hA2 : atsB lev l (k + 1) = atsB lev l k ++ [(p : Int)] := by rw [atsB_succ, Hat.out]
      have HC3 := Lib.hid hC2
      have HA3 := Lib.hid hA2
      have Hno : Hid (∀ b, (Value.slice aC nC cC).ownBlock = some b → b < wc.heap.size) := fun b e => ((HN.out.row 11 rfl).lt b e).2
      clear hC2 hA2
      go_region_held3 (fun _ => True) (trivial)
          (first
            | (refine Mem.step_appI' elemCodes rfl (.tmp 38) (.tmp 40) rfl (HN.out.alloc_ (.cells #[.int .i64 cd] 28)).drew 11 rfl rfl wc.heap.size 1 cd rfl (by simp) Hcl.out ?_
               intro ad n1 cp w7 hM7 hs7 hk7
               have t0 : w7.cell? ⟨bo, 0, none⟩ = some (.slice aC nC cC) := by have := hM7.cell 10 rfl 0; simpa using this
               have t1 : w7.cell? ⟨bo, 1, none⟩ = some (.slice aA nA cA) := by have := hM7.cell 10 rfl 1; simpa using this
               have tz : bo < w7.heap.size := (hM7.box 10 rfl).2.1
               clear hs7 hk7)
            | (refine Mem.step_appI' elemCodes rfl (.tmp 38) (.tmp 40) rfl ((HN.out.alloc_ (.cells #[.int .i64 cd] 28)).alloc_ (.cells #[.int .i64 (p : Int)] 3)).drew 11 rfl rfl wc.heap.size 1 cd rfl (by simp) Hcl.out ?_
               intro ad n1 cp w7 hM7 hs7 hk7
               have q7 : w7.cell? ⟨wc.heap.size + 1, 0, none⟩ = some (.int .i64 (p : Int)) := by
                 have e := hk7 (wc.heap.size + 1) (by simp) (fun e => by have := Hno.out _ e; omega)
                 have e2 : w7.cell? ⟨wc.heap.size + 1, 0, none⟩ = (((wc.alloc (.cells #[.int .i64 cd] 28)).alloc (.cells #[.int .i64 (p : Int)] 3)).drew).cell? ⟨wc.heap.size + 1, 0, none⟩ := by unfold World.cell?; rw [e]
                 rw [e2]; simp
               have t0 : w7.cell? ⟨bo, 0, none⟩ = some (.slice aC nC cC) := by have := hM7.cell 10 rfl 0; simpa using this
               have t1 : w7.cell? ⟨bo, 1, none⟩ = some (.slice aA nA cA) := by have := hM7.cell 10 rfl 1; simpa using this
               have tz : bo < w7.heap.size := (hM7.box 10 rfl).2.1
               clear hs7 hk7)
            | (refine Mem.step_appI' elemCodes rfl (.tmp 38) (.tmp 40) rfl ((HN.out.alloc_ (.cells #[.int .i64 (p : Int)] 3)).alloc_ (.cells #[.int .i64 cd] 28)).drew 11 rfl rfl (wc.heap.size + 1) 1 cd rfl (by simp) Hcl.out ?_
               intro ad n1 cp w7 hM7 hs7 hk7
               have q7 : w7.cell? ⟨wc.heap.size, 0, none⟩ = some (.int .i64 (p : Int)) := by
                 have e := hk7 (wc.heap.size) (by simp; try omega) (fun e => by have := Hno.out _ e; omega)
                 have e2 : w7.cell? ⟨wc.heap.size, 0, none⟩ = (((wc.alloc (.cells #[.int .i64 (p : Int)] 3)).alloc (.cells #[.int .i64 cd] 28)).drew).cell? ⟨wc.heap.size, 0, none⟩ := by unfold World.cell?; rw [e]
                 rw [e2]; simp
               have t0 : w7.cell? ⟨bo, 0, none⟩ = some (.slice aC nC cC) := by have := hM7.cell 10 rfl 0; simpa using this
               have t1 : w7.cell? ⟨bo, 1, none⟩ = some (.slice aA nA cA) := by have := hM7.cell 10 rfl 1; simpa using this
               have tz : bo < w7.heap.size := (hM7.box 10 rfl).2.1
               clear hs7 hk7)
            | (refine Mem.step_appI' elemInts rfl (.tmp 43) (.tmp 45) rfl (hM7.alloc_ (.cells #[.int .i64 (p : Int)] 3)) 12 rfl rfl w7.heap.size 1 (p : Int) rfl (by simp) Hal.out ?_
               intro ad9 n9 cp9 w9 hM9 hs9 hk9
               have t0 : w9.cell? ⟨bo, 0, none⟩ = some (.slice aC nC cC) := by have := hM9.cell 10 rfl 0; simpa using this
               have t1 : w9.cell? ⟨bo, 1, none⟩ = some (.slice aA nA cA) := by have := hM9.cell 10 rfl 1; simpa using this
               have u0 : w9.frozen? ⟨bo, 0, none⟩ = false := hM9.free 10 rfl 0
               have u1 : w9.frozen? ⟨bo, 1, none⟩ = false := hM9.free 10 rfl 1
               have tz : bo < w9.heap.size := (hM9.box 10 rfl).2.1
               have HM9 := Lib.hid ((hM9.setBox 10 rfl 0 (.slice ad n1 cp)).setBox 10 rfl 1 (.slice ad9 n9 cp9))
               clear hs9 hk9 hM9)
            | (refine Mem.step_appI' elemInts rfl (.tmp 43) (.tmp 45) rfl hM7 12 rfl rfl (wc.heap.size + 1) 1 (p : Int) rfl (q7) Hal.out ?_
               intro ad9 n9 cp9 w9 hM9 hs9 hk9
               have t0 : w9.cell? ⟨bo, 0, none⟩ = some (.slice aC nC cC) := by have := hM9.cell 10 rfl 0; simpa using this
               have t1 : w9.cell? ⟨bo, 1, none⟩ = some (.slice aA nA cA) := by have := hM9.cell 10 rfl 1; simpa using this
               have u0 : w9.frozen? ⟨bo, 0, none⟩ = false := hM9.free 10 rfl 0
               have u1 : w9.frozen? ⟨bo, 1, none⟩ = false := hM9.free 10 rfl 1
               have tz : bo < w9.heap.size := (hM9.box 10 rfl).2.1
               have HM9 := Lib.hid ((hM9.setBox 10 rfl 0 (.slice ad n1 cp)).setBox 10 rfl 1 (.slice ad9 n9 cp9))
               clear hs9 hk9 hM9)
            | (refine Mem.step_appI' elemInts rfl (.tmp 43) (.tmp 45) rfl hM7 12 rfl rfl wc.heap.size 1 (p : Int) rfl (q7) Hal.out ?_
               intro ad9 n9 cp9 w9 hM9 hs9 hk9
               have t0 : w9.cell? ⟨bo, 0, none⟩ = some (.slice aC nC cC) := by have := hM9.cell 10 rfl 0; simpa using this
               have t1 : w9.cell? ⟨bo, 1, none⟩ = some (.slice aA nA cA) := by have := hM9.cell 10 rfl 1; simpa using this
               have u0 : w9.frozen? ⟨bo, 0, none⟩ = false := hM9.free 10 rfl 0
               have u1 : w9.frozen? ⟨bo, 1, none⟩ = false := hM9.free 10 rfl 1
               have tz : bo < w9.heap.size := (hM9.box 10 rfl).2.1
               have HM9 := Lib.hid ((hM9.setBox 10 rfl 0 (.slice ad n1 cp)).setBox 10 rfl 1 (.slice ad9 n9 cp9))
               clear hs9 hk9 hM9))
      all_goals
        go_wp2_with fail
        go_roundw
        case rel => exact ⟨k + 1, c2, _, _, by omega, (fun j => by have := HC2.out j; omega), by go_num, HM9.out.cast (by rw [Hnext.out, HC3.out, HA3.out]; rfl)⟩
        case measure => simp [intOf]; omega
    · obtain rfl : k = l.length := by omega
      have HB := Lib.hid (yblocks_any w.heap.size w wr By bt lev hs2 bs c (stateB lev l l.length) (buddyInv hs2 l l.length (Nat.le_refl _)).p _ hM)
      clear hM hcc
      go_wp2_with fail
      with_reducible refine HB.out.mono ?_
      rintro e w5 ⟨fv, rfl, hM⟩
      clear HB
      obtain ⟨aF, nF, cF, rfl⟩ := own_slice (hM.row 0 rfl)
      obtain ⟨aC, nC, cC, rfl⟩ := own_slice (hM.row 12 rfl)
      obtain ⟨aA, nA, cA, rfl⟩ := own_slice (hM.row 13 rfl)
      have c0 : w5.cell? ⟨bo, 0, none⟩ = some (.slice aC nC cC) := by have := hM.cell 11 rfl 0; simpa using this
      have c1 : w5.cell? ⟨bo, 1, none⟩ = some (.slice aA nA cA) := by have := hM.cell 11 rfl 1; simpa using this
      have c2 : w5.cell? ⟨bo, 2, none⟩ = some (.slice none 0 0) := by have := hM.cell 11 rfl 2; simpa using this
      have f2 : w5.frozen? ⟨bo, 2, none⟩ = false := hM.free 11 rfl 2
      have zo : bo < w5.heap.size := (hM.box 11 rfl).2.1
      have hM1 := hM.setBox 11 rfl 2 (.slice aF nF cF)
      obtain ⟨W1, hW1⟩ : ∃ W1, w5.setCell ⟨bo, 2, none⟩ (.slice aF nF cF) = W1 := ⟨_, rfl⟩
      rw [hW1] at hM1
      have d0 : w5.cell? ⟨w.heap.size, 0, none⟩ = some (.slice none 0 0) := by have := hM.cell 14 rfl 0; simpa using this
      have d1 : w5.cell? ⟨w.heap.size, 1, none⟩ = some (.slice none 0 0) := by have := hM.cell 14 rfl 1; simpa using this
      have d2 : w5.cell? ⟨w.heap.size, 2, none⟩ = some (.slice none 0 0) := by have := hM.cell 14 rfl 2; simpa using this
      have g0 : w5.frozen? ⟨w.heap.size, 0, none⟩ = false := hM.free 14 rfl 0
      have g1 : w5.frozen? ⟨w.heap.size, 1, none⟩ = false := hM.free 14 rfl 1
      have g2 : w5.frozen? ⟨w.heap.size, 2, none⟩ = false := hM.free 14 rfl 2
      have zr : w.heap.size < w5.heap.size := (hM.box 14 rfl).2.1
      have hne : bo ≠ w.heap.size := fun e => Ent.apart_at hM.apart (i := 11) (j := 14) (by decide) rfl rfl bo rfl (by rw [e]; rfl)
      have hne2 : w.heap.size ≠ bo := fun e => hne e.symm
      have hM2 := hM1.setBox 14 rfl 0 (.slice aC nC cC)
      have hM3 := hM2.setBox 14 rfl 1 (.slice aA nA cA)
      have hM4 := hM3.setBox 14 rfl 2 (.slice aF nF cF)
      have r0 := hM4.cell 14 rfl 0
      have r1 := hM4.cell 14 rfl 1
      have r2 := hM4.cell 14 rfl 2
      obtain ⟨W9, hW9⟩ : ∃ W9, ((W1.setCell ⟨w.heap.size, 0, none⟩ (.slice aC nC cC)).setCell ⟨w.heap.size, 1, none⟩ (.slice aA nA cA)).setCell ⟨w.heap.size, 2, none⟩ (.slice aF nF cF) = W9 := ⟨_, rfl⟩
      have hM5 : Mem w.heap.size w W9 [rowI 28 (.slice aC nC cC) (codesB lev l l.length), rowI 3 (.slice aA nA cA) (atsB lev l l.length), rowB (.slice aF nF cF) (freeB lev (stateB lev l l.length).fr)] := by
        rw [← hW9]
        exact hM4.pick0 [12, 13, 0] (by decide) rfl
      rw [hW9] at r0 r1 r2
      have HM5 := Lib.hid hM5
      have HW9 := Lib.hid hW9
      have HW1 := Lib.hid hW1
      clear hM hM1 hM2 hM3 hM4 hM5 hW9 hW1
      go_wp2_with fail
      rw [HW1.out, HW9.out]
      simp at r0 r1 r2
      refine bodyPost_ret (v := .tuple #[.agg #[.slice aC nC cC, .slice aA nA cA, .slice aF nF cF], .int .i64 0]) (by simp [results, Try.results19, go_sem, r0, r1, r2]) rfl ⟨_, _, _, rfl, HM5.out⟩
end Go.Proofs.Ytmbcfbehchpfbaa
