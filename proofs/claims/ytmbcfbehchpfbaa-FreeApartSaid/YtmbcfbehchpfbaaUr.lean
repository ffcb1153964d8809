/- FreeApart, walked. -/
import Derived.Test.YtmbcfbehchpfbaaUq
import Derived.Test.YtmbcfbehchpfbaaUo
namespace Go.Proofs.Ytmbcfbehchpfbaa
open Go.RowKit

theorem ownF_succ (size : Nat) (pol : Int) (l : List (Int × Int)) (i k : Nat) : ownF size pol l (i + 1) k = if codeF size pol l i ≠ 0 then ownF size pol l i k
    else if (l.getD i (0, 0)).1 = 2 then (if ownF size pol l i k = ownF size pol l i (l.getD i (0, 0)).2.toNat then 0 else ownF size pol l i k)
    else if atF size pol l i ≤ k ∧ k < atF size pol l i + (l.getD i (0, 0)).2.toNat then (i : Int) + 1 else ownF size pol l i k := rfl
theorem free_apart {N : Nat} (h1 : 1 ≤ N) (pol : Int) (l : List (Int × Int)) : ApartOk N l (codesF N pol l l.length) (atsF N pol l l.length) (stateF N pol l l.length).fr false (fun x => x.toNat) (ownF N pol l) := by
  have hI := freeInv h1 pol l l.length (Nat.le_refl _)
  refine ⟨codesF_len _ _ _ _, atsF_len _ _ _ _, fun _ _ => rfl, ?_, fun b hb => ⟨hI.pos b hb, hI.ends b hb⟩, ?_, ?_, fun k hk h => (hI.free k hk).1 h⟩
  · intro i a c t ha hc ht
    have hil : i < l.length := (List.getElem?_eq_some_iff.1 ha).1
    rw [codesF_get hil] at hc
    rw [atsF_get hil] at ht
    cases hc
    cases ht
    have hIi := freeInv h1 pol l i (by omega)
    have hgd : l.getD i (0, 0) = a := by rw [List.getD_eq_getElem?_getD, ha]; rfl
    have hsucc := fun k => ownF_succ N pol l i k
    rw [hgd] at hsucc
    have hcode := codeF_at (size := N) (pol := pol) ha
    have hat := atF_at (size := N) (pol := pol) ha
    have hA := step_asked N pol (stateF N pol l i) a
    generalize (stepF N pol (stateF N pol l i) a).1 = s' at *
    generalize (stepF N pol (stateF N pol l i) a).2.1 = c at *
    generalize (stepF N pol (stateF N pol l i) a).2.2 = p at *
    rw [hcode, hat] at hsucc ⊢
    unfold ApStep
    cases hA with
    | took s1 p1 h2 h3 h4 h5 =>
      refine .inr (.inr ⟨rfl, by omega, p, a.2.toNat, rfl, rfl, fun _ => by omega, by omega, ?_⟩)
      have hT := hIi.take (by omega) (by omega) h5
      refine ⟨hT.1, (fun h => by cases h), hT.2.1, fun k hk => ?_⟩
      rw [hsucc k, if_neg (by decide), if_neg (by omega)]
    | full h2 => exact .inl ⟨by decide, fun k _ => by rw [hsucc k, if_pos (by decide)]⟩
    | range h2 => exact .inl ⟨by decide, fun k _ => by rw [hsucc k, if_pos (by decide)]⟩
    | gave s1 h2 h3 =>
      obtain ⟨p, n, e, _, hpN, hne, _⟩ := hIi.give h3
      refine .inr (.inl ⟨rfl, h2, p, e, hpN, hne, fun k _ => ?_⟩)
      rw [hsucc k, if_neg (by decide), if_pos h2, e, Int.toNat_natCast]
    | arg h2 => exact .inl ⟨by decide, fun k _ => by rw [hsucc k, if_pos (by decide)]⟩
    | kind h2 => exact .inl ⟨by decide, fun k _ => by rw [hsucc k, if_pos (by decide)]⟩
  · have hr := hI.rise
    unfold Rise at hr
    exact hr.imp fun {b c} h k h2 h3 h4 => by omega
  · intro b hb k h2 h3
    have := hI.ends b hb
    exact (hI.free k (by omega)).2 ⟨b, hb, h2, h3⟩
set_option maxRecDepth 100000 in
set_option maxHeartbeats 1000000 in
theorem freeApart_yes (size pol : Int) (v : Value) (l : List (Int × Int)) (w : World) (hl : IsTup 2 encA w v l) (h64 : AsksOk l) :
    Calls Try.prog 3 #[.int .i64 size, .int .i64 pol, v] w fun e w' => e = .returned (.bool true) ∧ Below w.heap.size w w' := by
  have HP := Lib.hid (fplay_any size pol v l w hl h64)
  have HL := Lib.hid hl
  obtain ⟨al, cl, rfl, hlm⟩ := hl.slice
  clear hl h64
  go_enter Try.func3, Try.ntmps3
  go_wp2_with fail
  with_reducible refine HP.out.mono ?_
  rintro e w1 ⟨cv, av, fv, rfl, hb1, hor⟩
  clear HP
  rcases hor with ⟨hne, rfl, rfl, rfl⟩ | ⟨he, N, rfl, hN1, hN2, hp, hn, hC, hA, hF⟩
  · have q1 : (errF size pol l.length != 0) = true := by simpa using hne
    have HB := Lib.hid hb1
    clear hne hb1
    go_wp2
    go_ret
    exact ⟨by first | rfl | simp, HB.out.alloc HB.out.size _⟩
  · have q1 : (errF (N : Int) pol l.length != 0) = false := by simp [he]
    have hlen := (freeInv hN1 pol l l.length (Nat.le_refl _)).len
    have hB := hb1.alloc hb1.size (.cells #[cv, av, fv] 27)
    have hb2 : Below w1.heap.size w1 (w1.alloc (.cells #[cv, av, fv] 27)) := (Below.refl _ _).alloc (Nat.le_refl _) _
    have HAp := Lib.hid (apart_any N hN1 hN2 (.slice al l.length cl) cv av fv l _ _ _ false _ _ (w1.alloc (.cells #[cv, av, fv] 27)) (free_apart hN1 pol l) hn (HL.out.later hB) (hC.later hb2) (hA.later hb2) (hF.later hb2) (by omega) (fun h => by cases h))
    obtain ⟨aC, cC, rfl, _⟩ := hC.slice
    obtain ⟨aA, cA, rfl, _⟩ := hA.slice
    obtain ⟨aF, cF, rfl, _⟩ := hF.slice
    have HB := Lib.hid hB
    have q2 : decide ((N : Int) < 1) = false := decide_eq_false (by omega)
    have q2n : decide (N < 1) = false := decide_eq_false (by omega)
    have q3 : decide ((N : Int) > 256) = false := decide_eq_false (by omega)
    clear hb1 hb2 hB hC hA hF he
    go_wp2_with fail
    with_reducible refine HAp.out.mono ?_
    rintro e w2 ⟨rfl, hb3⟩
    have HB3 := Lib.hid (HB.out.trans (hb3.mono HB.out.size))
    clear hb3 HAp
    go_wp2
    go_ret
    exact ⟨rfl, HB3.out⟩
theorem freeApart_walk (W : World) (v0 v1 v2 : Value) (g0 : ∃ x : Int, v0 = .int .i64 x ∧ i64ok x) (g1 : ∃ x : Int, v1 = .int .i64 x ∧ i64ok x) (g2 : ∃ l : List (Int × Int), IsTup 2 encA W v2 l ∧ AsksOk l ∧ l.length ≤ 17592186044416) :
    Calls Try.prog 3 #[v0, v1, v2] W fun e w' => e = .returned (.bool true) ∧ Below W.heap.size W w' := by
  obtain ⟨x, rfl, _⟩ := g0
  obtain ⟨y, rfl, _⟩ := g1
  obtain ⟨l, hl, h64, _⟩ := g2
  exact freeApart_yes x y v2 l W hl h64
end Go.Proofs.Ytmbcfbehchpfbaa
