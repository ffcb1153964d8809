/- Free words: Play at every input. -/
import Derived.Test.YtmbcfbehchpfbaaUm
namespace Go.Proofs.Ytmbcfbehchpfbaa
open Go.RowKit

/-- The error that Play tells. -/
def errF (size pol : Int) (n : Nat) : Int := if size < 1 ∨ 256 < size then 3 else if ¬ (1 ≤ pol ∧ pol ≤ 4) then 5 else if 100 < n then 1 else 0
/-- The asks' fields are ints. -/
def AsksOk (l : List (Int × Int)) : Prop := ∀ a ∈ l, i64ok a.1 ∧ i64ok a.2
def FPlayAll (size pol : Int) (l : List (Int × Int)) (w : World) (e : Ending) (w' : World) : Prop :=
  ∃ cv av fv, e = .returned (.tuple #[.agg #[cv, av, fv], .int .i64 (errF size pol l.length)]) ∧ Below w.heap.size w w' ∧
    ((errF size pol l.length ≠ 0 ∧ cv = .slice none 0 0 ∧ av = .slice none 0 0 ∧ fv = .slice none 0 0) ∨
      (errF size pol l.length = 0 ∧ ∃ N : Nat, size = N ∧ 1 ≤ N ∧ N ≤ 256 ∧ (1 ≤ pol ∧ pol ≤ 4) ∧ l.length ≤ 100 ∧ IsInts w' cv (codesF N pol l l.length) ∧ IsInts w' av (atsF N pol l l.length) ∧ IsTup 2 encB w' fv (stateF N pol l l.length).fr ∧ ∃ a c, av = .slice a l.length c ∧ l.length ≤ c))
theorem stepF_code (size : Nat) (pol : Int) (s : FSt) (a : Int × Int) : 0 ≤ (stepF size pol s a).2.1 ∧ (stepF size pol s a).2.1 ≤ 6 := by
  have hA := step_asked size pol s a
  generalize (stepF size pol s a).1 = s' at *
  generalize (stepF size pol s a).2.1 = c at *
  generalize (stepF size pol s a).2.2 = p at *
  cases hA <;> omega
theorem codes_i64 (size : Nat) (pol : Int) (l : List (Int × Int)) (k : Nat) : ∀ x ∈ codesF size pol l k, i64ok x := by
  intro x hx
  obtain ⟨i, _, rfl⟩ := List.mem_map.1 hx
  have := stepF_code size pol (stateF size pol l i) (l.getD i (0, 0))
  unfold codeF i64ok; omega
theorem atF_le {size : Nat} (h1 : 1 ≤ size) (pol : Int) (l : List (Int × Int)) (k : Nat) (hk : k < l.length) : atF size pol l k < size := by
  have hI := freeInv h1 pol l k (by omega)
  unfold atF
  have hA := step_asked size pol (stateF size pol l k) (l.getD k (0, 0))
  generalize (stepF size pol (stateF size pol l k) (l.getD k (0, 0))).1 = s' at *
  generalize (stepF size pol (stateF size pol l k) (l.getD k (0, 0))).2.1 = c at *
  generalize (stepF size pol (stateF size pol l k) (l.getD k (0, 0))).2.2 = p at *
  cases hA with
  | took s1 p1 h2 h3 h4 h5 => have := (hI.take (by omega) (by omega) h5).1; omega
  | _ => omega
theorem ats_i64 {size : Nat} (h1 : 1 ≤ size) (h2 : size ≤ 256) (pol : Int) (l : List (Int × Int)) (k : Nat) (hk : k ≤ l.length) : ∀ x ∈ atsF size pol l k, i64ok x := by
  intro x hx
  obtain ⟨i, hi, rfl⟩ := List.mem_map.1 hx
  rw [List.mem_range] at hi
  have := atF_le h1 pol l i (by omega)
  unfold i64ok; omega
theorem own_cap {B : Nat} {w : World} {e : TypeId} {v : Value} {l : List Int} {n : Nat} (h : w.ownsRow B e 1 v l.length (l.map (.int .i64))) (hl : l.length = n) : ∃ a c, v = .slice a n c ∧ n ≤ c := by
  subst hl
  rcases h.2 with ⟨rfl, h0⟩ | ⟨g, cap, cur, rfl, _, _, hc, _⟩
  · exact ⟨none, 0, by rw [h0], by omega⟩
  · exact ⟨_, cap, rfl, hc⟩
set_option maxRecDepth 100000 in
set_option maxHeartbeats 1000000 in
theorem fplay_any (size pol : Int) (v : Value) (l : List (Int × Int)) (w : World) (hl : IsTup 2 encA w v l) (h64 : AsksOk l) :
    Calls Try.prog 14 #[.int .i64 size, .int .i64 pol, v] w (FPlayAll size pol l w) := by
  by_cases hs : size < 1 ∨ 256 < size
  · have he : errF size pol l.length = 3 := by unfold errF; rw [if_pos hs]
    obtain ⟨al, cl, rfl, hlm⟩ := hl.slice
    have HB := Lib.hid ((Mem.start w).alloc #[.slice none 0 0, .slice none 0 0, .slice none 0 0] 27)
    have HE := Lib.hid he
    clear hl he
    rcases hs with hs | hs
    · have q1 : decide (size < 1) = true := decide_eq_true hs
      go_enter Try.func14, Try.ntmps14
      go_wp2
      refine bodyPost_ret (v := .tuple #[.agg #[.slice none 0 0, .slice none 0 0, .slice none 0 0], .int .i64 3]) (by simp [results, Try.results14, go_sem]) rfl ⟨_, _, _, by rw [HE.out], HB.out.below, .inl ⟨by rw [HE.out]; decide, rfl, rfl, rfl⟩⟩
    · have q1 : decide (size < 1) = false := decide_eq_false (by omega)
      have q2 : decide (size > 256) = true := decide_eq_true hs
      go_enter Try.func14, Try.ntmps14
      go_wp2
      refine bodyPost_ret (v := .tuple #[.agg #[.slice none 0 0, .slice none 0 0, .slice none 0 0], .int .i64 3]) (by simp [results, Try.results14, go_sem]) rfl ⟨_, _, _, by rw [HE.out], HB.out.below, .inl ⟨by rw [HE.out]; decide, rfl, rfl, rfl⟩⟩
  · obtain ⟨N, rfl⟩ : ∃ N : Nat, size = N := ⟨size.toNat, by omega⟩
    have hN1 : 1 ≤ N := by omega
    have hN2 : N ≤ 256 := by omega
    by_cases hp : 1 ≤ pol ∧ pol ≤ 4
    · by_cases hn : l.length ≤ 100
      · have he : errF (N : Int) pol l.length = 0 := by unfold errF; rw [if_neg hs, if_neg (by simpa using hp), if_neg (by omega)]
        refine (fplay_yes N hN1 hN2 pol hp v l w hl hn h64).mono ?_
        rintro e w' ⟨cv, av, fv, rfl, hM⟩
        have hlen := (freeInv hN1 pol l l.length (Nat.le_refl _)).len
        exact ⟨cv, av, fv, by rw [he], hM.below, .inr ⟨he, N, rfl, hN1, hN2, hp, hn, isInts_of_own (hM.ownI 0 rfl) (by rw [codesF_len]; omega) (codes_i64 N pol l _), isInts_of_own (hM.ownI 1 rfl) (by rw [atsF_len]; omega) (ats_i64 hN1 hN2 pol l _ (Nat.le_refl _)), isTup_of_own encB_len (hM.ownT 2 rfl) (by omega), own_cap (hM.ownI 1 rfl) (atsF_len N pol l _)⟩⟩
      · have he : errF (N : Int) pol l.length = 1 := by unfold errF; rw [if_neg hs, if_neg (by simpa using hp), if_pos (by omega)]
        obtain ⟨al, cl, rfl, hlm⟩ := hl.slice
        have HM0 := Lib.hid ((Mem.start w).alloc #[.slice none 0 0, .slice none 0 0, .slice none 0 0] 27)
        have HE := Lib.hid he
        have q1 : decide ((N : Int) < 1) = false := decide_eq_false (by omega)
        have q1n : decide (N < 1) = false := decide_eq_false (by omega)
        have q2 : decide ((N : Int) > 256) = false := decide_eq_false (by omega)
        have q3 : decide ((l.length : Int) > 100) = true := decide_eq_true (by omega)
        clear hl he hs h64
        go_enter Try.func14, Try.ntmps14
        go_wp2_with fail
        with_reducible refine (new_any N _).mono ?_
        rintro e w1 ⟨Bl, Bm, fv, rfl, hM1⟩
        have hM2 := HM0.out.callMem hM1
        have c2 : w1.cell? ⟨Bl, 2, none⟩ = some (.int .i64 ((startF N).last : Int)) := by have := hM1.cell 0 rfl 2; simpa using this
        have HW := Lib.hid (how_yes pol (startF N).last Bl w1 hp c2 (hM1.box 0 rfl).2.1)
        have HM2 := Lib.hid hM2
        clear hM1 hM2 HM0 c2
        go_wp2_with fail
        with_reducible refine HW.out.mono ?_
        rintro e w2 ⟨hv, rfl, _, hb2⟩
        have hM3 := HM2.out.call hb2
        have d0 : w2.cell? ⟨w.heap.size, 0, none⟩ = some (.slice none 0 0) := by have := hM3.cell 3 rfl 0; simpa using this
        have d1 : w2.cell? ⟨w.heap.size, 1, none⟩ = some (.slice none 0 0) := by have := hM3.cell 3 rfl 1; simpa using this
        have d2 : w2.cell? ⟨w.heap.size, 2, none⟩ = some (.slice none 0 0) := by have := hM3.cell 3 rfl 2; simpa using this
        have g0 : w2.frozen? ⟨w.heap.size, 0, none⟩ = false := hM3.free 3 rfl 0
        have g1 : w2.frozen? ⟨w.heap.size, 1, none⟩ = false := hM3.free 3 rfl 1
        have g2 : w2.frozen? ⟨w.heap.size, 2, none⟩ = false := hM3.free 3 rfl 2
        have zr : w.heap.size < w2.heap.size := (hM3.box 3 rfl).2.1
        have HB := Lib.hid (((hM3.setBox 3 rfl 0 (.slice none 0 0)).setBox 3 rfl 1 (.slice none 0 0)).setBox 3 rfl 2 (.slice none 0 0)).below
        clear hM3 HM2 HW hb2
        go_wp2
        refine bodyPost_ret (v := .tuple #[.agg #[.slice none 0 0, .slice none 0 0, .slice none 0 0], .int .i64 1]) (by simp [results, Try.results14, go_sem, d0, d1, d2]) rfl ⟨_, _, _, by rw [HE.out], HB.out, .inl ⟨by rw [HE.out]; decide, rfl, rfl, rfl⟩⟩
    · have he : errF (N : Int) pol l.length = 5 := by unfold errF; rw [if_neg hs, if_pos (by simpa using hp)]
      obtain ⟨al, cl, rfl, hlm⟩ := hl.slice
      have HM0 := Lib.hid ((Mem.start w).alloc #[.slice none 0 0, .slice none 0 0, .slice none 0 0] 27)
      have HE := Lib.hid he
      have q1 : decide ((N : Int) < 1) = false := decide_eq_false (by omega)
      have q1n : decide (N < 1) = false := decide_eq_false (by omega)
      have q2 : decide ((N : Int) > 256) = false := decide_eq_false (by omega)
      clear hl he hs h64
      go_enter Try.func14, Try.ntmps14
      go_wp2_with fail
      with_reducible refine (new_any N _).mono ?_
      rintro e w1 ⟨Bl, Bm, fv, rfl, hM1⟩
      have hM2 := HM0.out.callMem hM1
      have c2 : w1.cell? ⟨Bl, 2, none⟩ = some (.int .i64 ((startF N).last : Int)) := by have := hM1.cell 0 rfl 2; simpa using this
      have HW := Lib.hid (how_no pol Bl w1 hp)
      have HM2 := Lib.hid hM2
      clear hM1 hM2 HM0 c2
      go_wp2_with fail
      with_reducible refine HW.out.mono ?_
      rintro e w2 ⟨rfl, hb2⟩
      have hM3 := HM2.out.call hb2
      have d0 : w2.cell? ⟨w.heap.size, 0, none⟩ = some (.slice none 0 0) := by have := hM3.cell 3 rfl 0; simpa using this
      have d1 : w2.cell? ⟨w.heap.size, 1, none⟩ = some (.slice none 0 0) := by have := hM3.cell 3 rfl 1; simpa using this
      have d2 : w2.cell? ⟨w.heap.size, 2, none⟩ = some (.slice none 0 0) := by have := hM3.cell 3 rfl 2; simpa using this
      have g0 : w2.frozen? ⟨w.heap.size, 0, none⟩ = false := hM3.free 3 rfl 0
      have g1 : w2.frozen? ⟨w.heap.size, 1, none⟩ = false := hM3.free 3 rfl 1
      have g2 : w2.frozen? ⟨w.heap.size, 2, none⟩ = false := hM3.free 3 rfl 2
      have zr : w.heap.size < w2.heap.size := (hM3.box 3 rfl).2.1
      have HB := Lib.hid (((hM3.setBox 3 rfl 0 (.slice none 0 0)).setBox 3 rfl 1 (.slice none 0 0)).setBox 3 rfl 2 (.slice none 0 0)).below
      clear hM3 HM2 HW hb2
      go_wp2
      refine bodyPost_ret (v := .tuple #[.agg #[.slice none 0 0, .slice none 0 0, .slice none 0 0], .int .i64 5]) (by simp [results, Try.results14, go_sem, d0, d1, d2]) rfl ⟨_, _, _, by rw [HE.out], HB.out, .inl ⟨by rw [HE.out]; decide, rfl, rfl, rfl⟩⟩
end Go.Proofs.Ytmbcfbehchpfbaa
