/- Epoch: Play at every input. -/
import Derived.Test.YtgmjhoekpbomiaaYl
namespace Go.Proofs.Ytgmjhoekpbomiaa
open Go.RowKit

/-- What Play says at every input. -/
def EPlayAll (T : Int) (l : List Deed) (w w' : World) (e : Ending) : Prop :=
  ∃ cv fv wv c, e = .returned (.tuple #[.agg #[cv, fv, wv], .int .i64 c]) ∧ (∃ a n k, cv = .slice a n k) ∧ (∃ a n k, fv = .slice a n k) ∧ (∃ a n k, wv = .slice a n k) ∧ Below w.heap.size w w' ∧
    ((c ≠ 0 ∧ ¬ ((1 ≤ T ∧ T ≤ 4) ∧ l.length ≤ 100)) ∨ (c = 0 ∧ ∃ N : Nat, T = N ∧ 1 ≤ N ∧ N ≤ 4 ∧ l.length ≤ 100 ∧ IsInts w' cv (ecodes N l l.length) ∧ IsTup 2 encF w' fv (est N l l.length).freed ∧ IsInts w' wv ((est N l l.length).waits.map (·.1))))
theorem ecode_i64 (T : Nat) (l : List Deed) (k : Nat) : i64ok (ecode T l k) := by
  unfold ecode
  split
  · unfold estep edoes i64ok
    repeat' split
    all_goals (simp only []; omega)
  · unfold i64ok; omega
theorem ecodes_i64 (T : Nat) (l : List Deed) (k : Nat) : ∀ x ∈ ecodes T l k, i64ok x := by
  intro x hx
  obtain ⟨i, _, rfl⟩ := List.mem_map.1 hx
  exact ecode_i64 T l i
/-- The fields of deeds are ints. -/
def DeedsOk (l : List Deed) : Prop := ∀ d ∈ l, i64ok d.who ∧ i64ok d.item
theorem retiredTo_sub (l : List Deed) (c : List Int) (kind : Int) (k : Nat) : ∀ x ∈ retiredTo l c kind k, ∃ d ∈ l, d.item = x := by
  intro x hx
  obtain ⟨p, hp, h⟩ := List.mem_filterMap.1 hx
  split at h
  · cases h
    exact ⟨p.1, (List.of_mem_zip (List.mem_of_mem_take hp)).1, rfl⟩
  · cases h
theorem EInv.sizes {T : Nat} {l : List Deed} {k : Nat} {s : ES} (h : EInv T l k s) : s.freed.length + s.waits.length ≤ k := by
  have h1 := h.perm.length_eq
  have h2 := retiredTo_le l (ecodes T l l.length) 3 k
  simp only [List.length_append, List.length_map] at h1
  omega
set_option maxRecDepth 100000 in
set_option maxHeartbeats 1000000 in
theorem eplay_any (T : Int) (v : Value) (l : List Deed) (w : World) (hl : IsTup 3 encD w v l) (h64 : DeedsOk l) :
    Calls Try.prog 15 #[.int .i64 T, v] w fun e w' => EPlayAll T l w w' e := by
  by_cases hT : T < 1 ∨ T > 4
  · obtain ⟨al, cl, rfl, hlm⟩ := hl.slice
    have HB := Lib.hid ((Mem.start w).alloc #[.slice none 0 0, .slice none 0 0, .slice none 0 0] 27)
    clear hl
    rcases hT with hT | hT
    · have q1 : decide (T < 1) = true := decide_eq_true hT
      go_enter Try.func15, Try.ntmps15
      go_wp2
      refine bodyPost_ret (v := .tuple #[.agg #[.slice none 0 0, .slice none 0 0, .slice none 0 0], .int .i64 3]) (by simp [results, Try.results15, go_sem]) rfl ⟨_, _, _, 3, rfl, ⟨_, _, _, rfl⟩, ⟨_, _, _, rfl⟩, ⟨_, _, _, rfl⟩, ?_, .inl ⟨by decide, fun h => by omega⟩⟩
      exact HB.out.below
    · have q1 : decide (T < 1) = false := decide_eq_false (by omega)
      have q2 : decide (T > 4) = true := decide_eq_true hT
      go_enter Try.func15, Try.ntmps15
      go_wp2
      refine bodyPost_ret (v := .tuple #[.agg #[.slice none 0 0, .slice none 0 0, .slice none 0 0], .int .i64 3]) (by simp [results, Try.results15, go_sem]) rfl ⟨_, _, _, 3, rfl, ⟨_, _, _, rfl⟩, ⟨_, _, _, rfl⟩, ⟨_, _, _, rfl⟩, ?_, .inl ⟨by decide, fun h => by omega⟩⟩
      exact HB.out.below
  · by_cases hn : l.length ≤ 100
    · obtain ⟨N, rfl⟩ : ∃ N : Nat, T = N := ⟨T.toNat, by omega⟩
      refine (eplay_yes N (by omega) (by omega) v l w hl hn).mono ?_
      rintro e w' ⟨cv, fv, wv, rfl, hM⟩
      have hi := est_inv N l l.length (Nat.le_refl _)
      have hf := hi.sizes
      refine ⟨cv, fv, wv, 0, rfl, own_slice (hM.row 0 rfl), own_slice (hM.row 1 rfl), own_slice (hM.row 2 rfl), hM.below, .inr ⟨rfl, N, rfl, by omega, by omega, hn, ?_, ?_, ?_⟩⟩
      · exact isInts_of_own (hM.ownI 0 rfl) (by rw [ecodes_len]; omega) (ecodes_i64 N l _)
      · exact hM.isTup 1 rfl encF_len (by omega)
      · refine isInts_of_own (hM.ownI 2 rfl) (by rw [List.length_map]; omega) fun x hx => ?_
        obtain ⟨d, hd, rfl⟩ := retiredTo_sub _ _ _ _ x (hi.perm.mem_iff.1 (List.mem_append.2 (.inr hx)))
        exact (h64 d hd).2
    · obtain ⟨al, cl, rfl, hlm⟩ := hl.slice
      have HB := Lib.hid ((Mem.start w).alloc #[.slice none 0 0, .slice none 0 0, .slice none 0 0] 27)
      have q1 : decide (T < 1) = false := decide_eq_false (by omega)
      have q2 : decide (T > 4) = false := decide_eq_false (by omega)
      have q3 : decide ((l.length : Int) > 100) = true := decide_eq_true (by omega)
      clear hl
      go_enter Try.func15, Try.ntmps15
      go_wp2
      refine bodyPost_ret (v := .tuple #[.agg #[.slice none 0 0, .slice none 0 0, .slice none 0 0], .int .i64 1]) (by simp [results, Try.results15, go_sem]) rfl ⟨_, _, _, 1, rfl, ⟨_, _, _, rfl⟩, ⟨_, _, _, rfl⟩, ⟨_, _, _, rfl⟩, ?_, .inl ⟨by decide, fun h => hn h.2⟩⟩
      exact HB.out.below
end Go.Proofs.Ytgmjhoekpbomiaa
