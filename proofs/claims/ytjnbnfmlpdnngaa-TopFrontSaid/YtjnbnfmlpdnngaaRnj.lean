/- run.Play: what it hands back at every input. -/
import Derived.Test.YtjnbnfmlpdnngaaRni
import Derived.Test.YtjnbnfmlpdnngaaBase16
namespace Go.Proofs.Ytjnbnfmlpdnngaa
open Go.RowKit Go.Shelf

/-- The code of what is refused. -/
def rcode (col words : Int) (n : Nat) : Int := if 1 ≤ col ∧ col ≤ 3 then (if 1 ≤ words ∧ words ≤ 256 then (if n ≤ 100 then 0 else 1) else 3) else 5
theorem rcode_zero {col words : Int} {n : Nat} : rcode col words n = 0 ↔ (1 ≤ col ∧ col ≤ 3) ∧ (1 ≤ words ∧ words ≤ 256) ∧ n ≤ 100 := by
  unfold rcode
  split
  · rename_i h1
    split
    · rename_i h2
      split
      · rename_i h3; exact ⟨fun _ => ⟨h1, h2, h3⟩, fun _ => rfl⟩
      · rename_i h3; exact ⟨fun h => absurd h (by decide), fun h => absurd h.2.2 h3⟩
    · rename_i h2; exact ⟨fun h => absurd h (by decide), fun h => absurd h.2.1 h2⟩
  · rename_i h1; exact ⟨fun h => absurd h (by decide), fun h => absurd h.1 h1⟩
set_option maxRecDepth 100000 in
set_option maxHeartbeats 2000000 in
theorem rplay_no (col words : Int) (au : Option Addr) (n cu : Nat) (w : World) (hk : rcode col words n ≠ 0) :
    Calls Try.prog 29 #[.int .i64 col, .int .i64 words, .slice au n cu] w fun e w' => e = .returned (.tuple #[.agg #[.slice none 0 0, .slice none 0 0, .slice none 0 0, .int .i64 0], .int .i64 (rcode col words n)]) ∧ Below w.heap.size w w' := by
  obtain ⟨c, hc⟩ : ∃ c, rcode col words n = c := ⟨_, rfl⟩
  rw [hc] at hk ⊢
  unfold rcode at hc
  have HM0 := Lib.hid ((Mem.start w).alloc #[.slice none 0 0, .slice none 0 0, .slice none 0 0, .int .i64 0] 65)
  by_cases h1 : 1 ≤ col ∧ col ≤ 3
  · rw [if_pos h1] at hc
    have c1 : ¬ col < 1 := by omega
    have c2 : ¬ 3 < col := by omega
    by_cases h2 : 1 ≤ words ∧ words ≤ 256
    · rw [if_pos h2] at hc
      have c3 : ¬ words < 1 := by omega
      have c4 : ¬ 256 < words := by omega
      by_cases h3 : n ≤ 100
      · rw [if_pos h3] at hc; exact absurd hc.symm hk
      · rw [if_neg h3] at hc
        subst hc
        have c5 : (100 : Int) < (n : Int) := by omega
        clear h1 h2 h3 hk
        go_enter Try.func29, Try.ntmps29
        go_wp2
        exact bodyPost_ret (v := .tuple #[.agg #[.slice none 0 0, .slice none 0 0, .slice none 0 0, .int .i64 0], .int .i64 1]) (by simp [results, Try.results29, go_sem]) rfl ⟨rfl, HM0.out.below⟩
    · rw [if_neg h2] at hc
      subst hc
      by_cases c3 : words < 1
      · clear h1 h2 hk
        go_enter Try.func29, Try.ntmps29
        go_wp2
        exact bodyPost_ret (v := .tuple #[.agg #[.slice none 0 0, .slice none 0 0, .slice none 0 0, .int .i64 0], .int .i64 3]) (by simp [results, Try.results29, go_sem]) rfl ⟨rfl, HM0.out.below⟩
      · have c4 : 256 < words := by omega
        clear h1 h2 hk
        go_enter Try.func29, Try.ntmps29
        go_wp2
        exact bodyPost_ret (v := .tuple #[.agg #[.slice none 0 0, .slice none 0 0, .slice none 0 0, .int .i64 0], .int .i64 3]) (by simp [results, Try.results29, go_sem]) rfl ⟨rfl, HM0.out.below⟩
  · rw [if_neg h1] at hc
    subst hc
    by_cases c1 : col < 1
    · clear h1 hk
      go_enter Try.func29, Try.ntmps29
      go_wp2
      exact bodyPost_ret (v := .tuple #[.agg #[.slice none 0 0, .slice none 0 0, .slice none 0 0, .int .i64 0], .int .i64 5]) (by simp [results, Try.results29, go_sem]) rfl ⟨rfl, HM0.out.below⟩
    · have c2 : 3 < col := by omega
      clear h1 hk
      go_enter Try.func29, Try.ntmps29
      go_wp2
      exact bodyPost_ret (v := .tuple #[.agg #[.slice none 0 0, .slice none 0 0, .slice none 0 0, .int .i64 0], .int .i64 5]) (by simp [results, Try.results29, go_sem]) rfl ⟨rfl, HM0.out.below⟩
/-- What Play hands back where it may be played. -/
def RGood (col words : Int) (ds : List Dd) (n : Nat) (w w' : World) (e : Ending) : Prop :=
  ∃ aO cO a1 n1 c1 a2 n2 c2 c, e = .returned (.tuple #[.agg #[.slice aO n cO, .slice a1 n1 c1, .slice a2 n2 c2, .int .i64 (runs (rstep col words) startX ds).1.x.times], .int .i64 0]) ∧ n ≤ cO ∧
    IsTup 3 cellsO w' (.slice aO n cO) (runs (rstep col words) startX ds).2 ∧ IsGraph w' (.agg #[.slice a1 n1 c1, .slice a2 n2 c2]) c ∧ CanonS (gOf (runs (rstep col words) startX ds).1.regs (runs (rstep col words) startX ds).1.os) c ∧ Below w.heap.size w w'
theorem rplay_good (col words : Int) (hcol : 1 ≤ col ∧ col ≤ 3) (hwd : 1 ≤ words ∧ words ≤ 256) (u : Value) (ds : List Dd) (n : Nat) (hn : ds.length = n) (h100 : n ≤ 100) (w : World) (hu : IsTup 5 cellsD w u ds) (hd : ∀ d ∈ ds, DdOk d) :
    Calls Try.prog 29 #[.int .i64 col, .int .i64 words, u] w fun e w' => RGood col words ds n w w' e := by
  refine (rplay_yes col words hcol hwd u ds w hu hd (by omega)).mono ?_
  rintro e w' ⟨s, vo, g1, g2, c, hs, rfl, hC, hG, hM⟩
  have hl : (runs (rstep col words) startX ds).2.length = n := by rw [runs_len]; exact hn
  have t1 := hM.isTup 0 rfl (fun _ => rfl) (by rw [hl]; omega)
  obtain ⟨aO, cO, rfl, _⟩ := t1.slice
  have k1 := ownCap (hM.row 0 rfl)
  obtain ⟨x1, x2, he, h1, h2⟩ := hG.here
  have hg := hG.here
  obtain ⟨a1, c1, rfl, _⟩ := h1.slice
  obtain ⟨a2, c2, rfl, _⟩ := h2.slice
  injection he with he
  have e1 : g1 = .slice a1 c.objs.length c1 := by
    have := congrArg (fun a : Array Value => a[0]?) he
    simpa using this
  have e2 : g2 = .slice a2 c.roots.length c2 := by
    have := congrArg (fun a : Array Value => a[1]?) he
    simpa using this
  subst e1 e2 hs
  rw [hl] at t1 k1 ⊢
  exact ⟨aO, cO, a1, _, c1, a2, _, c2, c, rfl, k1, t1, hg, hC, hM.below⟩
end Go.Proofs.Ytjnbnfmlpdnngaa
