/- Free words: Play, walked. -/
import Derived.Test.YtmbcfbehchpfbaaUl
import Derived.Deep.CutBlock
namespace Go.Proofs.Ytmbcfbehchpfbaa
open Go.RowKit

theorem elemCodes : Elem Try.prog 23 28 1 8 (.int .i64 0) := ⟨by kernel_rfl, info_parts (by kernel_rfl), rfl, by decide⟩
def encA (a : Int × Int) : List Value := [.int .i64 a.1, .int .i64 a.2]
theorem encA_len (a : Int × Int) : (encA a).length = 2 := rfl
theorem ok_of {size : Nat} {pol : Int} {l : List (Int × Int)} {k : Nat} (h1 : 1 ≤ size) (h2 : size ≤ 256) (hk : k ≤ l.length) : FOk (stateF size pol l k) := by
  have h := freeInv h1 pol l k hk
  exact ⟨by have := h.len; omega, fun b hb => by have := h.ends b hb; omega, by have := h.last; omega⟩
def FPlaySays (size : Nat) (pol : Int) (l : List (Int × Int)) (w : World) (e : Ending) (w' : World) : Prop :=
  ∃ cv av fv, e = .returned (.tuple #[.agg #[cv, av, fv], .int .i64 0]) ∧ Mem w.heap.size w w' [rowI 28 cv (codesF size pol l l.length), rowI 3 av (atsF size pol l l.length), rowB fv (stateF size pol l l.length).fr]
def outF (bo Br : Nat) (cv av : Value) (cs as_ : List Int) : List Ent := [ebox bo #[cv, av, .slice none 0 0] 27, rowI 28 cv cs, rowI 3 av as_, ebox Br #[.slice none 0 0, .slice none 0 0, .slice none 0 0] 27]
/-- A new row, full. -/
theorem Mem.allocRow {B : Nat} {w0 w : World} {L : List Ent} (h : Mem B w0 w L) (sz n : Nat) (c : Array Value) (e : TypeId) (hc : c.size = n * sz) (hn : n ≤ maxLen) : Mem B w0 (w.alloc (.cells c e)) (erow e sz (.slice (some ⟨w.heap.size, 0, none⟩) n n) n c.toList :: L) := by
  refine (h.alloc_ _).cons _ (row_ok.2 ⟨by simpa using hc, .inr ⟨w.heap.size, n, c, rfl, h.base, heap_alloc_new w _, Nat.le_refl _, hn, hc, List.take_of_length_le (by simpa using Nat.le_of_eq hc)⟩⟩) ?_
  intro y hy b e1 e2
  cases e1
  exact Nat.lt_irrefl _ (h.lt hy _ e2).2
/-- The loads of out.Codes and out.At, under names of their own: they are branched over, not taken first. -/
def ldC : Op := Op.load 23 (Operand.tmp 83)
theorem ldC_eq : Op.load 23 (Operand.tmp 83) = ldC := rfl
def ldA : Op := Op.load 24 (Operand.tmp 88)
theorem ldA_eq : Op.load 24 (Operand.tmp 88) = ldA := rfl
attribute [local go_sem] ldC ldA
set_option maxRecDepth 100000 in
set_option maxHeartbeats 2000000 in
theorem new_any (size : Nat) (w : World) : Calls Try.prog 31 #[.int .i64 (size : Int)] w fun e w' => ∃ Bl Bm v, e = .returned (.pointer (some ⟨Bl, 0, none⟩)) ∧ Mem w.heap.size w w' (ownL Bl Bm v 0 (startF size)) := by
  have hM1 := (Mem.start w).allocRow 2 1 #[.int .i64 0, .int .i64 (size : Int)] 34 rfl (by simp [maxLen])
  have hM2 := hM1.newMapAt mapII (w.heap.size + 1) (by simp)
  have hM3 := hM2.allocAt (w.heap.size + 1 + 1) (by simp) #[.slice (some ⟨w.heap.size, 0, none⟩) 1 1, .map (some (w.heap.size + 1)), .int .i64 0] 73
  have hM4 : Mem w.heap.size w _ (ownL (w.heap.size + 1 + 1) (w.heap.size + 1) (.slice (some ⟨w.heap.size, 0, none⟩) 1 1) 0 (startF size)) := hM3.pick0 [0, 2, 1] (by decide) rfl
  have HM4 := Lib.hid hM4
  clear hM1 hM2 hM3 hM4
  have hmm := @run_makeMap Try.prog
  go_enter Try.func31, Try.ntmps31
  go_wp2
  go_ret
  exact ⟨_, _, _, rfl, HM4.out⟩
set_option maxRecDepth 100000 in
set_option maxHeartbeats 2000000 in
theorem fplay_yes (size : Nat) (hs1 : 1 ≤ size) (hs2 : size ≤ 256) (pol : Int) (hp : 1 ≤ pol ∧ pol ≤ 4) (v : Value) (l : List (Int × Int)) (w : World) (hl : IsTup 2 encA w v l) (hl100 : l.length ≤ 100) (h64 : ∀ a ∈ l, i64ok a.1 ∧ i64ok a.2) :
    Calls Try.prog 14 #[.int .i64 (size : Int), .int .i64 pol, v] w (FPlaySays size pol l w) := by
  have Hl := Lib.hid hl
  obtain ⟨al, cl, rfl, hlm⟩ := hl.slice
  have hM0 := (Mem.start w).alloc #[.slice none 0 0, .slice none 0 0, .slice none 0 0] 27
  have HM0 := Lib.hid hM0
  have q1 : decide ((size : Int) < 1) = false := decide_eq_false (by omega)
  have q1n : decide (size < 1) = false := decide_eq_false (by omega)
  have q2 : decide ((size : Int) > 256) = false := decide_eq_false (by omega)
  have q3 : decide ((l.length : Int) > 100) = false := decide_eq_false (by omega)
  clear hl hM0
  go_enter Try.func14, Try.ntmps14
  go_wp2_with fail
  with_reducible refine (new_any size _).mono ?_
  rintro e w1 ⟨Bl, Bm, fv, rfl, hM1⟩
  have hM2 := HM0.out.callMem hM1
  have c2 : w1.cell? ⟨Bl, 2, none⟩ = some (.int .i64 ((startF size).last : Int)) := by have := hM1.cell 0 rfl 2; simpa using this
  have HW := Lib.hid (how_yes pol (startF size).last Bl w1 hp c2 (hM1.box 0 rfl).2.1)
  have HM2 := Lib.hid hM2
  clear hM1 hM2 HM0 c2
  go_wp2_with fail
  with_reducible refine HW.out.mono ?_
  rintro e w2 ⟨hv, rfl, _, hb2⟩
  have hM3 := (((((HM2.out.call hb2).alloc #[.slice none 0 0, .slice none 0 0, .slice none 0 0] 27).nilI 28).nilI 3))
  have hM4 : Mem w.heap.size w (w2.alloc (.cells #[.slice none 0 0, .slice none 0 0, .slice none 0 0] 27)) (ownL Bl Bm fv 0 (stateF size pol l 0) ++ outF w2.heap.size w.heap.size (.slice none 0 0) (.slice none 0 0) (codesF size pol l 0) (atsF size pol l 0)) := hM3.pick0 [3, 4, 5, 2, 1, 0, 6] (by decide) rfl
  have HM4 := Lib.hid hM4
  obtain ⟨bo, hbo⟩ : ∃ bo, w2.heap.size = bo := ⟨_, rfl⟩
  rw [hbo] at HM4
  have Hbo := Lib.hid hbo
  clear hM3 hM4 hb2 HM2 HW hbo
  go_wp2
  rw [Hbo.out]
  go_loopw [41] (fun i wr => ∃ (k mm : Nat) (fv cv av : Value), k ≤ l.length ∧ mm ≤ k ∧ i = .int .i64 (k : Int) ∧ Mem w.heap.size w wr (ownL Bl Bm fv mm (stateF size pol l k) ++ outF bo w.heap.size cv av (codesF size pol l k) (atsF size pol l k))) (fun i _ => l.length - (intOf i).toNat)
  case atStart => exact ⟨0, 0, fv, _, _, Nat.zero_le _, Nat.le_refl _, rfl, HM4.out⟩
  case round =>
    clear HM4
    obtain ⟨k, mm, fv, cv, av, hk, hmm, rfl, hM⟩ := hrel
    by_cases hlt : k < l.length
    · obtain ⟨a, ha⟩ := get_some _ _ hlt
      obtain ⟨bl, ol, cl2, hv, _, z1, hc⟩ := Hl.out.at hM.below ha
      cases hv
      have d0 := hc 0 _ rfl
      have d1 := hc 1 _ rfl
      rw [Nat.add_zero] at d0
      have hcode := codeF_at (size := size) (pol := pol) ha
      have hat := atF_at (size := size) (pol := pol) ha
      have hnext := stateF_succ (size := size) (pol := pol) ha
      have HO := Lib.hid (ok_of (pol := pol) hs1 hs2 hk)
      have HI := Lib.hid (freeInv hs1 pol l k hk)
      have h64a := h64 a (List.mem_of_getElem? ha)
      have Hcl : Hid ((codesF size pol l k).length ≤ 1000000) := Lib.hid (by rw [codesF_len]; omega)
      have Hal : Hid ((atsF size pol l k).length ≤ 1000000) := Lib.hid (by rw [atsF_len]; omega)
      obtain ⟨s, hs⟩ : ∃ s, stateF size pol l k = s := ⟨_, rfl⟩
      rw [hs] at HO HI hcode hat hnext hM
      have Hcode := Lib.hid hcode
      have Hat := Lib.hid hat
      have Hnext := Lib.hid hnext
      have Hs := Lib.hid hs
      have HM := Lib.hid (hM.alloc_ (.cells #[.int .i64 a.1, .int .i64 a.2] 36))
      obtain ⟨Wa, hWa⟩ : ∃ Wa, wr.alloc (.cells #[.int .i64 a.1, .int .i64 a.2] 36) = Wa := ⟨_, rfl⟩
      obtain ⟨ba, hba⟩ : ∃ ba, wr.heap.size = ba := ⟨_, rfl⟩
      have a0 : Wa.cell? ⟨ba, 0, none⟩ = some (.int .i64 a.1) := by rw [← hWa, ← hba]; simp
      have a1 : Wa.cell? ⟨ba, 1, none⟩ = some (.int .i64 a.2) := by rw [← hWa, ← hba]; simp
      have az : ba < Wa.heap.size := by rw [← hWa, ← hba]; simp
      rw [hWa] at HM
      have HWa := Lib.hid hWa
      have Hba := Lib.hid hba
      clear hM hc hcode hat hnext hs hWa hba
      go_upto_block 2 with (fail)
      rw [HWa.out, Hba.out]
      clear HWa Hba d0 d1
      go_cut [14, 15] (fun s14 s15 W => s14 = .int .i64 ((stepF size pol s a).2.2 : Int) ∧ s15 = .int .i64 (stepF size pol s a).2.1 ∧ ∃ fv' mm', mm' ≤ k + 1 ∧ Mem w.heap.size w W (ownL Bl Bm fv' mm' (stepF size pol s a).1 ++ outF bo w.heap.size cv av (codesF size pol l k) (atsF size pol l k)))
      case first =>
        by_cases hk1 : a.1 = 1
        · have qk : (a.1 == 1) = true := beq_iff_eq.2 hk1
          by_cases hr1 : a.2 < 1
          · have hst : stepF size pol s a = (s, 3, 0) := by unfold stepF; rw [if_pos hk1, if_pos (.inl hr1)]
            have HST := Lib.hid hst
            have r1 : decide (a.2 < 1) = true := decide_eq_true hr1
            clear hst hk1 hr1
            go_wp2
            go_meet
            rw [HST.out]
            exact ⟨rfl, rfl, fv, mm, by omega, HM.out⟩
          · have r1 : decide (a.2 < 1) = false := decide_eq_false hr1
            by_cases hr2 : (size : Int) < a.2
            · have hst : stepF size pol s a = (s, 3, 0) := by unfold stepF; rw [if_pos hk1, if_pos (.inr hr2)]
              have HST := Lib.hid hst
              have r2 : decide (a.2 > (size : Int)) = true := decide_eq_true hr2
              clear hst hk1 hr1 hr2
              go_wp2
              go_meet
              rw [HST.out]
              exact ⟨rfl, rfl, fv, mm, by omega, HM.out⟩
            · have r2 : decide (a.2 > (size : Int)) = false := decide_eq_false hr2
              obtain ⟨nn, hnn⟩ : ∃ nn : Nat, a.2 = nn := ⟨a.2.toNat, by omega⟩
              have HT := Lib.hid (take_words w.heap.size w Wa Bl Bm mm fv s pol nn _ HM.out HO.out hp (by omega) (by omega) (by omega))
              rw [hnn] at a1 r1 r2
              have r1n : decide (nn < 1) = false := decide_eq_false (by omega)
              have r2n : decide (size < nn) = false := decide_eq_false (by omega)
              cases ht : takeF pol s nn with
              | none =>
                have hst : stepF size pol s a = (s, 6, 0) := by unfold stepF; rw [if_pos hk1, if_neg (by omega), hnn, Int.toNat_natCast, ht]
                have HST := Lib.hid hst
                rw [ht] at HT
                clear hst hk1 hr1 hr2 hnn ht
                go_wp2_with fail
                with_reducible refine HT.out.mono ?_
                rintro e w3 ⟨rfl, fv', hM3⟩
                have HM3 := Lib.hid hM3
                clear hM3 HT HM
                go_wp2
                go_meet
                rw [HST.out]
                exact ⟨rfl, rfl, fv', mm, by omega, HM3.out⟩
              | some r =>
                obtain ⟨p, s'⟩ := r
                have hst : stepF size pol s a = (s', 0, p) := by unfold stepF; rw [if_pos hk1, if_neg (by omega), hnn, Int.toNat_natCast, ht]
                have HST := Lib.hid hst
                rw [ht] at HT
                clear hst hk1 hr1 hr2 hnn ht
                go_wp2_with fail
                with_reducible refine HT.out.mono ?_
                rintro e w3 ⟨rfl, fv', hM3⟩
                have HM3 := Lib.hid hM3
                clear hM3 HT HM
                go_wp2
                go_meet
                rw [HST.out]
                exact ⟨rfl, rfl, fv', mm + 1, by omega, HM3.out⟩
        · have qk : (a.1 == 1) = false := beq_eq_false_iff_ne.2 hk1
          by_cases hk2 : a.1 = 2
          · have qk2 : (a.1 == 2) = true := beq_iff_eq.2 hk2
            have HG := Lib.hid (give_words w.heap.size w Wa Bl Bm mm fv s a.2 _ HM.out HO.out HI.out.rise h64a.2 (fun n hn => by obtain ⟨p, h1, _, h3, _⟩ := HI.out.taken _ n hn; exact ⟨p, h1, by omega⟩))
            cases hg : giveF s a.2 with
            | none =>
              have hst : stepF size pol s a = (s, 2, 0) := by unfold stepF; rw [if_neg hk1, if_pos hk2, hg]
              have HST := Lib.hid hst
              rw [hg] at HG
              clear hst hk1 hk2 hg
              go_wp2_with fail
              with_reducible refine HG.out.mono ?_
              rintro e w3 ⟨rfl, fv', hM3⟩
              have HM3 := Lib.hid hM3
              clear hM3 HG HM
              go_wp2
              go_meet
              rw [HST.out]
              exact ⟨rfl, rfl, fv', mm, by omega, HM3.out⟩
            | some s' =>
              have hst : stepF size pol s a = (s', 0, 0) := by unfold stepF; rw [if_neg hk1, if_pos hk2, hg]
              have HST := Lib.hid hst
              rw [hg] at HG
              clear hst hk1 hk2 hg
              go_wp2_with fail
              with_reducible refine HG.out.mono ?_
              rintro e w3 ⟨rfl, fv', hM3⟩
              have HM3 := Lib.hid hM3
              clear hM3 HG HM
              go_wp2
              go_meet
              rw [HST.out]
              exact ⟨rfl, rfl, fv', mm, by omega, HM3.out⟩
          · have qk2 : (a.1 == 2) = false := beq_eq_false_iff_ne.2 hk2
            have hst : stepF size pol s a = (s, 5, 0) := by unfold stepF; rw [if_neg hk1, if_neg hk2]
            have HST := Lib.hid hst
            clear hst hk1 hk2
            go_wp2
            go_meet
            rw [HST.out]
            exact ⟨rfl, rfl, fv, mm, by omega, HM.out⟩
      case rest =>
        obtain ⟨rfl, rfl, fv', mm', hmm', hM⟩ := hcut
        obtain ⟨c, hcx⟩ : ∃ c, (stepF size pol s a).2.1 = c := ⟨_, rfl⟩
        obtain ⟨p, hpx⟩ : ∃ p, (stepF size pol s a).2.2 = p := ⟨_, rfl⟩
        rw [hcx, hpx]
        have HN := Lib.hid hM
        obtain ⟨aC, nC, cC, rfl⟩ := own_slice (hM.row 4 rfl)
        obtain ⟨aA, nA, cA, rfl⟩ := own_slice (hM.row 5 rfl)
        have t0 : wc.cell? ⟨bo, 0, none⟩ = some (.slice aC nC cC) := by have := hM.cell 3 rfl 0; simpa using this
        have t1 : wc.cell? ⟨bo, 1, none⟩ = some (.slice aA nA cA) := by have := hM.cell 3 rfl 1; simpa using this
        have tz : bo < wc.heap.size := (hM.box 3 rfl).2.1
        have Hcx := Lib.hid hcx
        have Hpx := Lib.hid hpx
        clear hcx hpx hM HM a0 a1 az h64a
        go_wp2
        rw [ldC_eq, ldA_eq]
        have hC2 : codesF size pol l (k + 1) = codesF size pol l k ++ [c] := by rw [codesF_succ, Hcode.out, Hcx.out]
        have hA2 : atsF size pol l (k + 1) = atsF size pol l k ++ [(p : Int)] := by rw [atsF_succ, Hat.out, Hpx.out]
        have HC2 := Lib.hid hC2
        have HA2 := Lib.hid hA2
        have Hno : Hid (∀ b, (Value.slice aC nC cC).ownBlock = some b → b < wc.heap.size) := fun b e => ((HN.out.row 4 rfl).lt b e).2
        clear hC2 hA2
        go_region_held3 (fun _ => True) (trivial)
            (first
              | (refine Mem.step_appI' elemCodes rfl (.tmp 84) (.tmp 86) rfl (HN.out.alloc_ (.cells #[.int .i64 c] 28)).drew 4 rfl rfl wc.heap.size 1 c rfl (by simp) Hcl.out ?_
                 intro ad n1 cp w7 hM7 hs7 hk7
                 have t0 : w7.cell? ⟨bo, 0, none⟩ = some (.slice aC nC cC) := by have := hM7.cell 3 rfl 0; simpa using this
                 have t1 : w7.cell? ⟨bo, 1, none⟩ = some (.slice aA nA cA) := by have := hM7.cell 3 rfl 1; simpa using this
                 have tz : bo < w7.heap.size := (hM7.box 3 rfl).2.1
                 clear hs7 hk7)
              | (refine Mem.step_appI' elemCodes rfl (.tmp 84) (.tmp 86) rfl ((HN.out.alloc_ (.cells #[.int .i64 c] 28)).alloc_ (.cells #[.int .i64 (p : Int)] 3)).drew 4 rfl rfl wc.heap.size 1 c rfl (by simp) Hcl.out ?_
                 intro ad n1 cp w7 hM7 hs7 hk7
                 have q7 : w7.cell? ⟨wc.heap.size + 1, 0, none⟩ = some (.int .i64 (p : Int)) := by
                   have e := hk7 (wc.heap.size + 1) (by simp) (fun e => by have := Hno.out _ e; omega)
                   have e2 : w7.cell? ⟨wc.heap.size + 1, 0, none⟩ = (((wc.alloc (.cells #[.int .i64 c] 28)).alloc (.cells #[.int .i64 (p : Int)] 3)).drew).cell? ⟨wc.heap.size + 1, 0, none⟩ := by unfold World.cell?; rw [e]
                   rw [e2]; simp
                 have t0 : w7.cell? ⟨bo, 0, none⟩ = some (.slice aC nC cC) := by have := hM7.cell 3 rfl 0; simpa using this
                 have t1 : w7.cell? ⟨bo, 1, none⟩ = some (.slice aA nA cA) := by have := hM7.cell 3 rfl 1; simpa using this
                 have tz : bo < w7.heap.size := (hM7.box 3 rfl).2.1
                 clear hs7 hk7)
              | (refine Mem.step_appI' elemCodes rfl (.tmp 84) (.tmp 86) rfl ((HN.out.alloc_ (.cells #[.int .i64 (p : Int)] 3)).alloc_ (.cells #[.int .i64 c] 28)).drew 4 rfl rfl (wc.heap.size + 1) 1 c rfl (by simp) Hcl.out ?_
                 intro ad n1 cp w7 hM7 hs7 hk7
                 have q7 : w7.cell? ⟨wc.heap.size, 0, none⟩ = some (.int .i64 (p : Int)) := by
                   have e := hk7 (wc.heap.size) (by simp; try omega) (fun e => by have := Hno.out _ e; omega)
                   have e2 : w7.cell? ⟨wc.heap.size, 0, none⟩ = (((wc.alloc (.cells #[.int .i64 (p : Int)] 3)).alloc (.cells #[.int .i64 c] 28)).drew).cell? ⟨wc.heap.size, 0, none⟩ := by unfold World.cell?; rw [e]
                   rw [e2]; simp
                 have t0 : w7.cell? ⟨bo, 0, none⟩ = some (.slice aC nC cC) := by have := hM7.cell 3 rfl 0; simpa using this
                 have t1 : w7.cell? ⟨bo, 1, none⟩ = some (.slice aA nA cA) := by have := hM7.cell 3 rfl 1; simpa using this
                 have tz : bo < w7.heap.size := (hM7.box 3 rfl).2.1
                 clear hs7 hk7)
              | (refine Mem.step_appI' elemInts rfl (.tmp 89) (.tmp 91) rfl (hM7.alloc_ (.cells #[.int .i64 (p : Int)] 3)) 5 rfl rfl w7.heap.size 1 (p : Int) rfl (by simp) Hal.out ?_
                 intro ad9 n9 cp9 w9 hM9 hs9 hk9
                 have t0 : w9.cell? ⟨bo, 0, none⟩ = some (.slice aC nC cC) := by have := hM9.cell 3 rfl 0; simpa using this
                 have t1 : w9.cell? ⟨bo, 1, none⟩ = some (.slice aA nA cA) := by have := hM9.cell 3 rfl 1; simpa using this
                 have u0 : w9.frozen? ⟨bo, 0, none⟩ = false := hM9.free 3 rfl 0
                 have u1 : w9.frozen? ⟨bo, 1, none⟩ = false := hM9.free 3 rfl 1
                 have tz : bo < w9.heap.size := (hM9.box 3 rfl).2.1
                 have HM9 := Lib.hid ((hM9.setBox 3 rfl 0 (.slice ad n1 cp)).setBox 3 rfl 1 (.slice ad9 n9 cp9))
                 clear hs9 hk9 hM9)
              | (refine Mem.step_appI' elemInts rfl (.tmp 89) (.tmp 91) rfl hM7 5 rfl rfl (wc.heap.size + 1) 1 (p : Int) rfl (q7) Hal.out ?_
                 intro ad9 n9 cp9 w9 hM9 hs9 hk9
                 have t0 : w9.cell? ⟨bo, 0, none⟩ = some (.slice aC nC cC) := by have := hM9.cell 3 rfl 0; simpa using this
                 have t1 : w9.cell? ⟨bo, 1, none⟩ = some (.slice aA nA cA) := by have := hM9.cell 3 rfl 1; simpa using this
                 have u0 : w9.frozen? ⟨bo, 0, none⟩ = false := hM9.free 3 rfl 0
                 have u1 : w9.frozen? ⟨bo, 1, none⟩ = false := hM9.free 3 rfl 1
                 have tz : bo < w9.heap.size := (hM9.box 3 rfl).2.1
                 have HM9 := Lib.hid ((hM9.setBox 3 rfl 0 (.slice ad n1 cp)).setBox 3 rfl 1 (.slice ad9 n9 cp9))
                 clear hs9 hk9 hM9)
              | (refine Mem.step_appI' elemInts rfl (.tmp 89) (.tmp 91) rfl hM7 5 rfl rfl wc.heap.size 1 (p : Int) rfl (q7) Hal.out ?_
                 intro ad9 n9 cp9 w9 hM9 hs9 hk9
                 have t0 : w9.cell? ⟨bo, 0, none⟩ = some (.slice aC nC cC) := by have := hM9.cell 3 rfl 0; simpa using this
                 have t1 : w9.cell? ⟨bo, 1, none⟩ = some (.slice aA nA cA) := by have := hM9.cell 3 rfl 1; simpa using this
                 have u0 : w9.frozen? ⟨bo, 0, none⟩ = false := hM9.free 3 rfl 0
                 have u1 : w9.frozen? ⟨bo, 1, none⟩ = false := hM9.free 3 rfl 1
                 have tz : bo < w9.heap.size := (hM9.box 3 rfl).2.1
                 have HM9 := Lib.hid ((hM9.setBox 3 rfl 0 (.slice ad n1 cp)).setBox 3 rfl 1 (.slice ad9 n9 cp9))
                 clear hs9 hk9 hM9))
        all_goals
          go_wp2_with fail
          go_roundw
          case rel => exact ⟨k + 1, mm', fv', _, _, by omega, hmm', by go_num, HM9.out.cast (by rw [Hnext.out, HC2.out, HA2.out]; rfl)⟩
          case measure => simp [intOf]; omega
    · obtain rfl : k = l.length := by omega
      obtain ⟨aF, nF, cF, rfl⟩ := own_slice (hM.row 1 rfl)
      obtain ⟨aC, nC, cC, rfl⟩ := own_slice (hM.row 4 rfl)
      obtain ⟨aA, nA, cA, rfl⟩ := own_slice (hM.row 5 rfl)
      have b0 : wr.cell? ⟨Bl, 0, none⟩ = some (.slice aF nF cF) := by have := hM.cell 0 rfl 0; simpa using this
      have zb : Bl < wr.heap.size := (hM.box 0 rfl).2.1
      have c0 : wr.cell? ⟨bo, 0, none⟩ = some (.slice aC nC cC) := by have := hM.cell 3 rfl 0; simpa using this
      have c1 : wr.cell? ⟨bo, 1, none⟩ = some (.slice aA nA cA) := by have := hM.cell 3 rfl 1; simpa using this
      have c2 : wr.cell? ⟨bo, 2, none⟩ = some (.slice none 0 0) := by have := hM.cell 3 rfl 2; simpa using this
      have f2 : wr.frozen? ⟨bo, 2, none⟩ = false := hM.free 3 rfl 2
      have zo : bo < wr.heap.size := (hM.box 3 rfl).2.1
      have hM1 := hM.setBox 3 rfl 2 (.slice aF nF cF)
      obtain ⟨W1, hW1⟩ : ∃ W1, wr.setCell ⟨bo, 2, none⟩ (.slice aF nF cF) = W1 := ⟨_, rfl⟩
      rw [hW1] at hM1
      have d0 : wr.cell? ⟨w.heap.size, 0, none⟩ = some (.slice none 0 0) := by have := hM.cell 6 rfl 0; simpa using this
      have d1 : wr.cell? ⟨w.heap.size, 1, none⟩ = some (.slice none 0 0) := by have := hM.cell 6 rfl 1; simpa using this
      have d2 : wr.cell? ⟨w.heap.size, 2, none⟩ = some (.slice none 0 0) := by have := hM.cell 6 rfl 2; simpa using this
      have g0 : wr.frozen? ⟨w.heap.size, 0, none⟩ = false := hM.free 6 rfl 0
      have g1 : wr.frozen? ⟨w.heap.size, 1, none⟩ = false := hM.free 6 rfl 1
      have g2 : wr.frozen? ⟨w.heap.size, 2, none⟩ = false := hM.free 6 rfl 2
      have zr : w.heap.size < wr.heap.size := (hM.box 6 rfl).2.1
      have hne : bo ≠ w.heap.size := fun e => Ent.apart_at hM.apart (i := 3) (j := 6) (by decide) rfl rfl bo rfl (by rw [e]; rfl)
      have hne2 : w.heap.size ≠ bo := fun e => hne e.symm
      have hM2 := hM1.setBox 6 rfl 0 (.slice aC nC cC)
      have hM3 := hM2.setBox 6 rfl 1 (.slice aA nA cA)
      have hM4 := hM3.setBox 6 rfl 2 (.slice aF nF cF)
      have r0 := hM4.cell 6 rfl 0
      have r1 := hM4.cell 6 rfl 1
      have r2 := hM4.cell 6 rfl 2
      obtain ⟨W9, hW9⟩ : ∃ W9, ((W1.setCell ⟨w.heap.size, 0, none⟩ (.slice aC nC cC)).setCell ⟨w.heap.size, 1, none⟩ (.slice aA nA cA)).setCell ⟨w.heap.size, 2, none⟩ (.slice aF nF cF) = W9 := ⟨_, rfl⟩
      have hM5 : Mem w.heap.size w W9 [rowI 28 (.slice aC nC cC) (codesF size pol l l.length), rowI 3 (.slice aA nA cA) (atsF size pol l l.length), rowB (.slice aF nF cF) (stateF size pol l l.length).fr] := by
        rw [← hW9]
        exact hM4.pick0 [4, 5, 1] (by decide) rfl
      rw [hW9] at r0 r1 r2
      have HM5 := Lib.hid hM5
      have HW9 := Lib.hid hW9
      have HW1 := Lib.hid hW1
      clear hM hM1 hM2 hM3 hM4 hM5 hW9 hW1
      go_wp2_with fail
      rw [HW1.out, HW9.out]
      simp at r0 r1 r2
      refine bodyPost_ret (v := .tuple #[.agg #[.slice aC nC cC, .slice aA nA cA, .slice aF nF cF], .int .i64 0]) (by simp [results, Try.results14, go_sem, r0, r1, r2]) rfl ⟨_, _, _, rfl, HM5.out⟩
end Go.Proofs.Ytmbcfbehchpfbaa
