/- ragpickerref.KindsCheck, walked. -/
import Derived.Test.YtjnbnfmlpdnngaaWe
namespace Go.Proofs.Ytjnbnfmlpdnngaa
open Go.RowKit Go.Shelf

theorem kindAt_ok {ks : List Int} (h : KindsOk ks) (i : Int) : kindAt ks i = 0 ∨ kindAt ks i = 1 ∨ kindAt ks i = 2 := by
  unfold kindAt
  rw [List.getD_eq_getElem?_getD]
  cases hx : ks[i.toNat]? with
  | none => left; rfl
  | some x => have := h x (List.mem_of_getElem? hx); simp only [Option.getD_some]; omega
set_option maxHeartbeats 1000000 in
theorem kcheck_yes (g : G) (v u : Value) (ks : List Int) (w : World) (hg : IsGraph w v g) (hu : IsInts w u ks) (hl : ks.length = g.objs.length) (hk : KindsOk ks) :
    Calls Try.prog 26 #[v, u] w fun e w' => e = .returned (.int .i64 0) ∧ Below w.heap.size w w' := by
  obtain ⟨vo, vr, rfl, ho, hr⟩ := hg
  obtain ⟨ao, co, rfl, hlo⟩ := ho.slice
  obtain ⟨ar, cr, rfl, hlr⟩ := hr.slice
  obtain ⟨au, cu, rfl, hlu⟩ := hu.slice
  have Hu := Lib.hid hu
  have Hk := Lib.hid hk
  have hM0 := (Mem.start w).alloc #[.slice ao g.objs.length co, .slice ar g.roots.length cr] 25
  have hz : ((ks.length : Int) == (g.objs.length : Int)) = true := by rw [hl]; simp
  have hz2 : (ks.length : Int) = (g.objs.length : Int) := by omega
  obtain ⟨N, hN⟩ : ∃ N, ks.length = N := ⟨_, rfl⟩
  rw [hN] at hz hz2 hlu Hu ⊢
  have HN := Lib.hid hN
  have hz3 : ((N : Int) != (g.objs.length : Int)) = false := by simp [bne, hz]
  clear ho hr hu hk hl hN hz hz2
  have hb0 := hM0.below
  have Hb0 := Lib.hid hb0
  clear hb0 hM0
  go_enter Try.func26, Try.ntmps26
  go_wp2
  go_loop [15] (fun i => ∃ k : Nat, k ≤ N ∧ i = .int .i64 k) (fun i => N - (intOf i).toNat)
  case atStart => exact ⟨0, Nat.zero_le _, rfl⟩
  case round =>
    obtain ⟨k, hk, rfl⟩ := hrel
    by_cases hlt : k < N
    · obtain ⟨x, hx⟩ := get_some ks k (by rw [HN.out]; exact hlt)
      obtain ⟨bx, ox, cx, hv, hbx, hnx, c1, _⟩ := Hu.out.at Hb0.out hx
      rw [HN.out] at hv
      cases hv
      have hxk := Hk.out x (List.mem_of_getElem? hx)
      have hx3 : x = 0 ∨ x = 1 ∨ x = 2 := by omega
      clear hx hxk
      rcases hx3 with rfl | rfl | rfl
      all_goals
        go_wp2
        go_round
        case rel => exact ⟨k + 1, by omega, by go_num⟩
        case measure => simp [intOf]; omega
    · obtain rfl : k = N := by omega
      go_wp2
      go_ret
      exact ⟨rfl, Hb0.out⟩
set_option maxHeartbeats 1000000 in
theorem kcheck_no (g : G) (v u : Value) (ks : List Int) (w : World) (hg : IsGraph w v g) (hu : IsInts w u ks) (hbad : ¬ (ks.length = g.objs.length ∧ KindsOk ks)) :
    Calls Try.prog 26 #[v, u] w fun e w' => (e = .returned (.int .i64 2) ∨ e = .returned (.int .i64 5)) ∧ Below w.heap.size w w' := by
  obtain ⟨vo, vr, rfl, ho, hr⟩ := hg
  obtain ⟨ao, co, rfl, hlo⟩ := ho.slice
  obtain ⟨ar, cr, rfl, hlr⟩ := hr.slice
  obtain ⟨au, cu, rfl, hlu⟩ := hu.slice
  have Hu := Lib.hid hu
  have Hbad := Lib.hid hbad
  have hM0 := (Mem.start w).alloc #[.slice ao g.objs.length co, .slice ar g.roots.length cr] 25
  have Hb0 := Lib.hid hM0.below
  clear ho hr hu hbad hM0
  by_cases hl : ks.length = g.objs.length
  · have hz : ((ks.length : Int) == (g.objs.length : Int)) = true := by rw [hl]; simp
    obtain ⟨N, hN⟩ : ∃ N, ks.length = N := ⟨_, rfl⟩
    have Hl := Lib.hid hl
    rw [hN] at hz hlu Hu ⊢
    have HN := Lib.hid hN
    have hz3 : ((N : Int) != (g.objs.length : Int)) = false := by simp [bne, hz]
    clear hl hN hz
    go_enter Try.func26, Try.ntmps26
    go_wp2
    go_loop [15] (fun i => ∃ k : Nat, k ≤ N ∧ i = .int .i64 k ∧ ∀ x ∈ ks.take k, 0 ≤ x ∧ x ≤ 2) (fun i => N - (intOf i).toNat)
    case atStart => exact ⟨0, Nat.zero_le _, rfl, by simp⟩
    case round =>
      obtain ⟨k, hk, rfl, hok⟩ := hrel
      have Hok := Lib.hid hok
      clear hok
      by_cases hlt : k < N
      · obtain ⟨x, hx⟩ := get_some ks k (by rw [HN.out]; exact hlt)
        obtain ⟨bx, ox, cx, hv, hbx, hnx, c1, _⟩ := Hu.out.at Hb0.out hx
        rw [HN.out] at hv
        cases hv
        have HS := Lib.hid (take_succ_some _ _ _ hx)
        clear hx
        by_cases hx3 : x = 0 ∨ x = 1 ∨ x = 2
        · rcases hx3 with rfl | rfl | rfl
          all_goals
            go_wp2
            go_round
            case rel => exact ⟨k + 1, by omega, by go_num, by rw [HS.out]; intro y hy; rcases List.mem_append.1 hy with h | h; exact Hok.out y h; simp at h; subst h; omega⟩
            case measure => simp [intOf]; omega
        · have h0 : (x == 0) = false := by simp; omega
          have h1 : (x == 1) = false := by simp; omega
          have h2 : (x == 2) = false := by simp; omega
          have h0' : ¬ x = 0 := by omega
          have g0 : (x != 0) = true := by simp; omega
          have g1 : (x != 1) = true := by simp; omega
          have g2 : (x != 2) = true := by simp; omega
          have h1' : ¬ x = 1 := by omega
          have h2' : ¬ x = 2 := by omega
          clear hx3
          go_wp2
          go_ret
          exact ⟨.inr rfl, Hb0.out⟩
      · exfalso
        obtain rfl : k = N := by omega
        have h := Hok.out
        rw [List.take_of_length_le (by rw [HN.out]; exact Nat.le_refl _)] at h
        exact Hbad.out ⟨Hl.out, h⟩
  · have hz : ((ks.length : Int) == (g.objs.length : Int)) = false := by simp; omega
    have hz2 : ¬ (ks.length : Int) = (g.objs.length : Int) := by omega
    go_enter Try.func26, Try.ntmps26
    go_wp2
    go_ret
    exact ⟨.inl rfl, Hb0.out⟩

end Go.Proofs.Ytjnbnfmlpdnngaa
