/- trial.Trial at any graph and list: what it hands back, as it reads later; and the refusals. -/
import Derived.Test.YtdmgpiimacnapaaTh
import Derived.Test.YtdmgpiimacnapaaLh
namespace Go.Proofs.Ytdmgpiimacnapaa
open Go.RowKit Go.Shelf

theorem rising_of {l : List Int} (h : l.Pairwise (· < ·)) : Rising l := by
  intro k x y hx hy
  obtain ⟨h1, rfl⟩ := List.getElem?_eq_some_iff.1 hx
  obtain ⟨h2, rfl⟩ := List.getElem?_eq_some_iff.1 hy
  exact List.pairwise_iff_getElem.1 h k (k + 1) h1 h2 (by omega)
theorem rising_le {l : List Int} {n : Nat} (h : l.Pairwise (· < ·)) (hr : ∀ x ∈ l, 0 ≤ x ∧ x < (n : Int)) : l.length ≤ n := by
  have h1 : ∀ (k : Nat) (hk : k < l.length), (k : Int) ≤ l[k] := by
    intro k
    induction k with
    | zero => intro hk; have := hr _ (List.getElem_mem hk); omega
    | succ k ih =>
      intro hk
      have h2 := ih (by omega)
      have h3 := List.pairwise_iff_getElem.1 h k (k + 1) (by omega) hk (by omega)
      omega
  rcases Nat.lt_or_ge n l.length with h2 | h2
  · have h3 := h1 n h2
    have h4 := hr _ (List.getElem_mem h2)
    omega
  · exact h2
def TrialReads (g : G) (fr : List Int) (w w' : World) (e : Ending) : Prop := ∃ vl L, e = .returned (.tuple #[vl, .int .i64 0]) ∧ TrialS g fr L ∧ IsInts w' vl L ∧ Below w.heap.size w w'
/-- What Trial may be asked. -/
def TrialOk (g : G) (fr : List Int) : Prop := Good g ∧ fr.length ≤ 24 ∧ ∀ x ∈ fr, 0 ≤ x ∧ x < (g.objs.length : Int)
theorem trial_reads (g : G) (v u : Value) (fr : List Int) (w : World) (hg : IsGraph w v g) (hu : IsInts w u fr) (hk : TrialOk g fr) :
    Calls Try.prog 31 #[v, u] w fun e w' => TrialReads g fr w w' e := by
  refine (trial_yes g hk.1 v u fr w hg hu hk.2.1 hk.2.2).mono ?_
  rintro e w1 ⟨vl, L, rfl, hT, hM⟩
  have hn := hk.1.objs
  have hl := rising_le hT.rising hT.rng
  exact ⟨vl, L, rfl, hT, isInts_of_own (hM.ownI 0 rfl) (by omega) (fun x hx => by have := hT.rng x hx; exact ⟨by omega, by omega⟩), hM.below⟩
def TrialNo (w w' : World) (e : Ending) : Prop := ∃ c : Int, (c != 0) = true ∧ e = .returned (.tuple #[.slice none 0 0, .int .i64 c]) ∧ Below w.heap.size w w'
set_option maxRecDepth 100000 in
set_option maxHeartbeats 1000000 in
theorem trial_no (g : G) (v u : Value) (fr : List Int) (w : World) (hg : IsGraph w v g) (hu : IsInts w u fr) (hk : ¬ TrialOk g fr) :
    Calls Try.prog 31 #[v, u] w fun e w' => TrialNo w w' e := by
  have Hg := Lib.hid hg
  obtain ⟨vo, vr, rfl, ho, hr⟩ := hg
  obtain ⟨ao, co, rfl, hlo⟩ := ho.slice
  obtain ⟨ar, cr, rfl, hlr⟩ := hr.slice
  obtain ⟨au, cu, rfl, hlu⟩ := hu.slice
  have Hu := Lib.hid hu
  have Hk := Lib.hid hk
  clear ho hr hu hk
  obtain ⟨N, hN⟩ : ∃ N, fr.length = N := ⟨_, rfl⟩
  rw [hN] at hlu
  rw [hN]
  have HN := Lib.hid hN
  clear hN
  have hM0 := (Mem.start w).alloc #[.slice ao g.objs.length co, .slice ar g.roots.length cr] 25
  by_cases hG : Good g
  · have HG := Lib.hid hG
    have hn := hG.objs
    go_enter Try.func31, Try.ntmps31
    go_wp2_with fail
    refine (gcheck_yes _ g _ (Hg.out.later hM0.below) HG.out).mono ?_
    rintro e w1 ⟨rfl, hb1⟩
    have hM1 := hM0.call hb1
    obtain ⟨p0, p1⟩ := hM1.cells2 0 rfl
    have z0 : w.heap.size < w1.heap.size := (hM1.box 0 rfl).2.1
    have HM1 := Lib.hid hM1
    clear hM0 hM1 hb1 hG
    by_cases hfl : N ≤ 24
    · have hex : ∃ x ∈ fr, ¬ (0 ≤ x ∧ x < (g.objs.length : Int)) := by
        apply Classical.byContradiction
        intro h
        refine Hk.out ⟨HG.out, by rw [HN.out]; exact hfl, fun x hx => ?_⟩
        apply Classical.byContradiction
        intro h2
        exact h ⟨x, hx, h2⟩
      have Hex := Lib.hid hex
      clear hex
      go_wp2
      go_loop [30] (fun iv => ∃ k : Nat, k ≤ N ∧ iv = .int .i64 k ∧ ∀ x ∈ fr.take k, 0 ≤ x ∧ x < (g.objs.length : Int)) (fun iv => N - (intOf iv).toNat)
      case atStart => exact ⟨0, Nat.zero_le _, rfl, by simp⟩
      case round =>
        obtain ⟨k, hk, rfl, hok⟩ := hrel
        have Hok := Lib.hid hok
        clear hok
        by_cases hlt : k < N
        · obtain ⟨x, hx⟩ := get_some fr k (by rw [HN.out]; exact hlt)
          obtain ⟨bx, ox, cx, hv, hbx, hnx, c1, _⟩ := Hu.out.at HM1.out.below hx
          rw [HN.out] at hv
          cases hv
          have HS := Lib.hid (take_succ_some _ _ _ hx)
          clear hx
          by_cases hx0 : x < 0
          · go_wp2
            go_ret2
            exact ⟨2, rfl, rfl, HM1.out.below⟩
          · by_cases hx1 : (g.objs.length : Int) ≤ x
            · go_wp2
              go_ret2
              exact ⟨2, rfl, rfl, HM1.out.below⟩
            · go_wp2
              go_round
              case rel => exact ⟨k + 1, by omega, by go_num, by rw [HS.out]; intro y hy; rcases List.mem_append.1 hy with h | h; exact Hok.out y h; simp at h; subst h; omega⟩
              case measure => simp [intOf]; omega
        · exfalso
          obtain rfl : N = k := by omega
          obtain ⟨x, hx, hb⟩ := Hex.out
          have := Hok.out
          rw [List.take_of_length_le (by rw [HN.out]; exact Nat.le_refl _)] at this
          exact hb (this x hx)
    · go_wp2
      go_ret2
      exact ⟨1, rfl, rfl, HM1.out.below⟩
  · have HG := Lib.hid hG
    clear hG
    go_enter Try.func31, Try.ntmps31
    go_wp2_with fail
    refine (gcheck_no _ g _ (Hg.out.later hM0.below) HG.out).mono ?_
    rintro e w1 ⟨⟨c, rfl, hc⟩, hb1⟩
    have hM1 := hM0.call hb1
    have hc2 : (c != 0) = true := by simp [bne, hc]
    go_wp2
    go_ret2
    exact ⟨c, hc2, rfl, hM1.below⟩
/-- A call that says whether something is so, and touches nothing. -/
def SaysQ (p : Prop) (w w' : World) (e : Ending) : Prop := ∃ t : Bool, e = .returned (.bool t) ∧ (t = true ↔ p) ∧ w = w'
/-- within, at any list. -/
theorem within_either (n : Nat) (v : Value) (l : List Int) (w : World) (hl : IsInts w v l) :
    Calls Try.prog 17 #[.int .i64 n, v] w fun e w' => SaysQ (∀ x ∈ l, 0 ≤ x ∧ x < (n : Int)) w w' e := by
  obtain ⟨a, cap, rfl, hm⟩ := hl.slice
  have Hl := Lib.hid hl
  clear hl
  go_enter Try.func17, Try.ntmps17
  go_wp2
  go_loop [9] (fun i => ∃ k : Nat, k ≤ l.length ∧ i = .int .i64 k ∧ ∀ x ∈ l.take k, 0 ≤ x ∧ x < (n : Int)) (fun i => l.length - (intOf i).toNat)
  case atStart => exact ⟨0, Nat.zero_le _, rfl, by simp⟩
  case round =>
    obtain ⟨k, hk, rfl, hN⟩ := hrel
    by_cases hlt : k < l.length
    · obtain ⟨y, hx⟩ := get_some _ _ hlt
      obtain ⟨b, off, cap2, hv, hb, hn, c1, _⟩ := Hl.out.at (Below.refl _ _) hx
      cases hv
      have HS := Lib.hid (take_succ_some _ _ _ hx)
      have HN := Lib.hid hN
      have Hx := Lib.hid (List.mem_of_getElem? hx)
      clear hx hN
      by_cases h0 : y < 0
      · have Hno : Hid (¬ ∀ x ∈ l, 0 ≤ x ∧ x < (n : Int)) := Lib.hid (fun h => by have := h y Hx.out; omega)
        go_wp2
        go_ret
        exact ⟨false, rfl, ⟨fun h => (by cases h), fun h => (Hno.out h).elim⟩, rfl⟩
      · by_cases h1 : (n : Int) ≤ y
        · have Hno : Hid (¬ ∀ x ∈ l, 0 ≤ x ∧ x < (n : Int)) := Lib.hid (fun h => by have := h y Hx.out; omega)
          go_wp2
          go_ret
          exact ⟨false, rfl, ⟨fun h => (by cases h), fun h => (Hno.out h).elim⟩, rfl⟩
        · go_wp2
          go_round
          case rel => exact ⟨k + 1, by omega, by go_num, by rw [HS.out]; intro x hx; rcases List.mem_append.1 hx with h | h; exact HN.out x h; simp at h; subst h; omega⟩
          case measure => simp [intOf]; omega
    · obtain rfl : k = l.length := by omega
      rw [List.take_length] at hN
      have HN := Lib.hid hN
      clear hN
      go_wp2
      go_ret
      exact ⟨true, rfl, ⟨fun _ => HN.out, fun _ => rfl⟩, rfl⟩
end Go.Proofs.Ytdmgpiimacnapaa
