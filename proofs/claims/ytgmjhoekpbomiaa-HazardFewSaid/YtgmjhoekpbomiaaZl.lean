/- Hazard: Play at every input; HazardSafe, walked. -/
import Derived.Test.YtgmjhoekpbomiaaZk
namespace Go.Proofs.Ytgmjhoekpbomiaa
open Go.RowKit

/-- What Play says at every input. -/
def PlayAll (T : Int) (l : List Deed) (w w' : World) (e : Ending) : Prop :=
  ∃ cv fv wv c, e = .returned (.tuple #[.agg #[cv, fv, wv], .int .i64 c]) ∧ (∃ a n k, cv = .slice a n k) ∧ (∃ a n k, fv = .slice a n k) ∧ (∃ a n k, wv = .slice a n k) ∧ Below w.heap.size w w' ∧
    ((c ≠ 0 ∧ ¬ ((1 ≤ T ∧ T ≤ 4) ∧ l.length ≤ 100)) ∨ (c = 0 ∧ ∃ N : Nat, T = N ∧ 1 ≤ N ∧ N ≤ 4 ∧ l.length ≤ 100 ∧ IsInts w' cv (hrun N l l.length).2 ∧ IsTup 2 encF w' fv (hrun N l l.length).1.freed ∧ IsInts w' wv (hrun N l l.length).1.waits.flatten))
theorem code_i64 {T : Nat} {gone : List Bool} {d : Deed} : i64ok (hcode T gone d) := by unfold hcode i64ok; split <;> (try split) <;> (try split) <;> omega
theorem codes_i64 (T : Nat) (l : List Deed) : ∀ k, k ≤ l.length → ∀ x ∈ (hrun T l k).2, i64ok x
  | 0, _ => by intro x hx; simp [hrun] at hx
  | k + 1, h => by
    have hd : l[k]? = some l[k] := List.getElem?_eq_getElem (by omega)
    rw [hrun_succ hd]
    intro x hx
    rcases List.mem_append.1 hx with h1 | h1
    · exact codes_i64 T l k (by omega) x h1
    · simp at h1; subst h1; exact code_i64
set_option maxRecDepth 100000 in
set_option maxHeartbeats 1000000 in
theorem play_any (T : Int) (v : Value) (l : List Deed) (w : World) (hl : IsTup 3 encD w v l) :
    Calls Try.prog 12 #[.int .i64 T, v] w fun e w' => PlayAll T l w w' e := by
  by_cases hT : T < 1 ∨ T > 4
  · obtain ⟨al, cl, rfl, hlm⟩ := hl.slice
    have HB := Lib.hid ((Mem.start w).alloc #[.slice none 0 0, .slice none 0 0, .slice none 0 0] 27)
    clear hl
    rcases hT with hT | hT
    · have q1 : decide (T < 1) = true := decide_eq_true hT
      go_enter Try.func12, Try.ntmps12
      go_wp2
      refine bodyPost_ret (v := .tuple #[.agg #[.slice none 0 0, .slice none 0 0, .slice none 0 0], .int .i64 3]) (by simp [results, Try.results12, go_sem]) rfl ⟨_, _, _, 3, rfl, ⟨_, _, _, rfl⟩, ⟨_, _, _, rfl⟩, ⟨_, _, _, rfl⟩, ?_, .inl ⟨by decide, fun h => by omega⟩⟩
      exact HB.out.below
    · have q1 : decide (T < 1) = false := decide_eq_false (by omega)
      have q2 : decide (T > 4) = true := decide_eq_true hT
      go_enter Try.func12, Try.ntmps12
      go_wp2
      refine bodyPost_ret (v := .tuple #[.agg #[.slice none 0 0, .slice none 0 0, .slice none 0 0], .int .i64 3]) (by simp [results, Try.results12, go_sem]) rfl ⟨_, _, _, 3, rfl, ⟨_, _, _, rfl⟩, ⟨_, _, _, rfl⟩, ⟨_, _, _, rfl⟩, ?_, .inl ⟨by decide, fun h => by omega⟩⟩
      exact HB.out.below
  · by_cases hn : l.length ≤ 100
    · obtain ⟨N, rfl⟩ : ∃ N : Nat, T = N := ⟨T.toNat, by omega⟩
      refine (play_yes N (by omega) (by omega) v l w hl hn).mono ?_
      rintro e w' ⟨cv, fv, wv, rfl, hM⟩
      have hi := hrun_inv N l l.length (Nat.le_refl _)
      have hf := fr_le hi
      have hwl := Nat.le_trans hf hn
      refine ⟨cv, fv, wv, 0, rfl, own_slice (hM.row 0 rfl), own_slice (hM.row 1 rfl), own_slice (hM.row 2 rfl), hM.below, .inr ⟨rfl, N, rfl, by omega, by omega, hn, ?_, ?_, ?_⟩⟩
      · exact isInts_of_own (hM.ownI 0 rfl) (by rw [hi.len]; omega) (codes_i64 N l _ (Nat.le_refl _))
      · exact hM.isTup 1 rfl encF_len (by omega)
      · refine isInts_of_own (hM.ownI 2 rfl) (by omega) fun x hx => ?_
        have h3 := hi.gone x (hi.perm.mem_iff.1 (List.mem_append.2 (.inr hx)))
        unfold i64ok; omega
    · obtain ⟨al, cl, rfl, hlm⟩ := hl.slice
      have HB := Lib.hid ((Mem.start w).alloc #[.slice none 0 0, .slice none 0 0, .slice none 0 0] 27)
      have q1 : decide (T < 1) = false := decide_eq_false (by omega)
      have q2 : decide (T > 4) = false := decide_eq_false (by omega)
      have q3 : decide ((l.length : Int) > 100) = true := decide_eq_true (by omega)
      clear hl
      go_enter Try.func12, Try.ntmps12
      go_wp2
      refine bodyPost_ret (v := .tuple #[.agg #[.slice none 0 0, .slice none 0 0, .slice none 0 0], .int .i64 1]) (by simp [results, Try.results12, go_sem]) rfl ⟨_, _, _, 1, rfl, ⟨_, _, _, rfl⟩, ⟨_, _, _, rfl⟩, ⟨_, _, _, rfl⟩, ?_, .inl ⟨by decide, fun h => hn h.2⟩⟩
      exact HB.out.below
end Go.Proofs.Ytgmjhoekpbomiaa
