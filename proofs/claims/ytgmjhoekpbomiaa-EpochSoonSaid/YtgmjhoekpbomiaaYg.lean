/- insideAt, walked. -/
import Derived.Test.YtgmjhoekpbomiaaYf
namespace Go.Proofs.Ytgmjhoekpbomiaa
open Go.RowKit

theorem insideTo_i64 {l : List Deed} {cs : List Int} (h : ∀ d ∈ l, i64ok d.who) : ∀ k, ∀ x ∈ insideTo l cs k, i64ok x
  | 0, x, hx => by simp [insideTo] at hx
  | k + 1, x, hx => by
    have ih := insideTo_i64 (cs := cs) h k
    unfold insideTo at hx
    split at hx
    · rename_i d c hd hc
      split at hx
      · exact ih x hx
      · rcases List.mem_append.1 hx with h1 | h1
        · exact ih x (List.mem_filter.1 h1).1
        · split at h1
          · simp at h1; subst h1; exact h d (List.mem_of_getElem? hd)
          · simp at h1
    · exact ih x hx
def keepW (who : Int) (l : List Int) : List Int := l.filter fun w => decide (w ≠ who)
theorem keepW_snoc (who : Int) (l : List Int) (x : Int) : keepW who (l ++ [x]) = keepW who l ++ if x = who then [] else [x] := by
  unfold keepW
  rw [List.filter_append]
  by_cases e : x = who
  · simp [e]
  · simp [e]
theorem keepW_le (who : Int) (l : List Int) : (keepW who l).length ≤ l.length := List.length_filter_le _ _
set_option maxRecDepth 100000 in
set_option maxHeartbeats 1000000 in
theorem insideAt_any (v u : Value) (l : List Deed) (cs : List Int) (n : Nat) (w : World) (hl : IsTup 3 encD w v l) (hc : IsInts w u cs) (hlen : l.length = cs.length) (hn : n ≤ l.length) (hsm : l.length ≤ 1000) (h64 : ∀ d ∈ l, i64ok d.who) :
    Calls Try.prog 16 #[v, u, .int .i64 n] w fun e w' => ∃ r, e = .returned r ∧ IsInts w' r (insideTo l cs n) ∧ Below w.heap.size w w' := by
  have Hl := Lib.hid hl
  have Hc := Lib.hid hc
  have Hlen := Lib.hid hlen
  have H64 := Lib.hid h64
  obtain ⟨a, cap, rfl, hm⟩ := hl.slice
  obtain ⟨a', cap', rfl, hm'⟩ := hc.slice
  clear hl hc hlen h64
  go_enter Try.func16, Try.ntmps16
  go_wp2
  go_loopw [7, 8] (fun r i wr => ∃ m : Nat, m ≤ n ∧ i = .int .i64 m ∧ Mem w.heap.size w wr [rowI 3 r (insideTo l cs m)]) (fun _ i _ => n - (intOf i).toNat)
  case atStart => exact ⟨0, Nat.zero_le _, rfl, (Mem.start w).nilI _⟩
  case round =>
    obtain ⟨m, hmk, rfl, hM⟩ := hrel
    have hile := insideTo_le l cs m
    have HI := Lib.hid (isInts_of_own (hM.ownI 0 rfl) (by omega) (insideTo_i64 H64.out m))
    by_cases hlt : m < n
    · obtain ⟨d, hd⟩ := get_some l m (by omega)
      obtain ⟨x, hx⟩ := get_some cs m (by have := Hlen.out; omega)
      have hlc : m < cs.length := by have := Hlen.out; omega
      have hll : m < l.length := by omega
      obtain ⟨b, off, cap2, hv, z1, hn1, hcells⟩ := Hl.out.at hM.below hd
      cases hv
      have h1 := hcells 0 _ rfl
      have h2 := hcells 1 _ rfl
      rw [Nat.add_zero] at h1
      obtain ⟨b', off', cap3, hv, z2, hn', h4, _⟩ := Hc.out.at hM.below hx
      cases hv
      have hs := insideTo_succ hd hx
      by_cases hskip : x ≠ 0 ∨ (d.kind ≠ 1 ∧ d.kind ≠ 2)
      · rw [if_pos hskip] at hs
        have HS := Lib.hid hs
        have HM := Lib.hid hM
        have hways : (x != 0) = true ∨ ((x != 0) = false ∧ (d.kind != 1) = true ∧ (d.kind != 2) = true) := by
          by_cases e : x = 0
          · rcases hskip with h | ⟨h, h'⟩
            · exact absurd e h
            · exact .inr ⟨by simp [e], by simpa using h, by simpa using h'⟩
          · exact .inl (by simpa using e)
        clear hd hx hcells hM hs hskip
        rcases hways with g1 | ⟨g1, g2, g3⟩
        all_goals
          go_wp2
          go_roundw
          case rel => exact ⟨m + 1, by omega, by go_num, by rw [HS.out]; exact HM.out⟩
          case measure => simp [intOf]; omega
      · rw [if_neg hskip] at hs
        have hx0 : x = 0 := by
          rcases Int.decEq x 0 with h | h
          · exact absurd (.inl h) hskip
          · exact h
        have hk12 : d.kind = 1 ∨ d.kind = 2 := by
          by_cases e : d.kind = 1
          · exact .inl e
          · rcases Int.decEq d.kind 2 with h | h
            · exact absurd (.inr ⟨e, h⟩) hskip
            · exact .inr h
        subst hx0
        obtain ⟨ar, cr, hu7, _⟩ := HI.out.slice
        obtain ⟨A, hA⟩ : ∃ A, insideTo l cs m = A := ⟨_, rfl⟩
        rw [hA] at hu7 hs hM hile HI
        subst hu7
        have HS := Lib.hid hs
        have HM := Lib.hid ((hM.nilI 3).cast (L' := [rowI 3 (.slice none 0 0) (keepW d.who (A.take 0)), rowI 3 (.slice ar A.length cr) A]) (by simp [keepW]))
        have HD := Lib.hid hd
        have HL64 := Lib.hid (H64.out d (List.mem_of_getElem? hd))
        have HA64 : Hid (∀ x ∈ A, i64ok x) := Lib.hid (by rw [← hA]; exact insideTo_i64 H64.out m)
        clear hd hx hcells hM hs hA hskip
        rcases hk12 with hk1 | hk1
        all_goals
          have g2 : (d.kind != 1) = decide (d.kind = 2) := by rw [hk1]; decide
          have g3 : (d.kind != 2) = decide (d.kind = 1) := by rw [hk1]; decide
          have g4 : (d.kind == 1) = decide (d.kind = 1) := by rw [hk1]; decide
          have HK := Lib.hid hk1
          rw [hk1] at g2 g3 g4 h1
          clear hk1
          go_wp2
          clear g2 g3 g4 h1 h2 h4 hn1 hn'
          go_loopw [9, 40] (fun r i wr => ∃ j : Nat, j ≤ A.length ∧ i = .int .i64 j ∧ Mem w.heap.size w wr [rowI 3 r (keepW d.who (A.take j)), rowI 3 (.slice ar A.length cr) A]) (fun _ i _ => A.length - (intOf i).toNat)
          case atStart => exact ⟨0, Nat.zero_le _, rfl, HM.out⟩
          case round =>
            clear HM
            obtain ⟨j, hj, rfl, hM⟩ := hrel
            obtain ⟨b, off, cap2, hv, _, hn1, hcells⟩ := Hl.out.at hM.below HD.out
            cases hv
            have h1 := hcells 0 _ rfl
            have h2 := hcells 1 _ rfl
            rw [Nat.add_zero, HK.out] at h1
            have hkl := keepW_le d.who (A.take j)
            have hkt : (A.take j).length ≤ A.length := List.length_take_le' _ _
            by_cases hlt2 : j < A.length
            · obtain ⟨y, hy⟩ := get_some A j hlt2
              obtain ⟨b3, off3, cap4, hv, _, hn3, h5, _⟩ := (isInts_of_own (hM.ownI 1 rfl) (by omega) HA64.out).at (Below.refl _ _) hy
              cases hv
              have hs := take_succ_some _ _ _ hy
              have HT := Lib.hid (show keepW d.who (A.take (j + 1)) = keepW d.who (A.take j) ++ if y = d.who then [] else [y] by rw [hs, keepW_snoc])
              have HM := Lib.hid hM
              clear hM hcells hy hs
              by_cases e : y = d.who
              · have g5 : (y != d.who) = false := by simp [e]
                have HE := Lib.hid (HT.out.trans (by rw [if_pos e, List.append_nil]))
                clear HT e
                go_wp2
                go_roundw
                case rel => exact ⟨j + 1, by omega, by go_num, by rw [HE.out]; exact HM.out⟩
                case measure => simp [intOf]; omega
              · have g5 : (y != d.who) = true := by simpa using e
                have HE := Lib.hid (HT.out.trans (by rw [if_neg e]))
                clear HT e
                go_wp2_with (at_builtin; refine Mem.wp_app1 elemInts rfl (.tmp 51) (.tmp 53) rfl HM.out 0 rfl rfl _ #[.int .i64 y] _ _ rfl (by simp) rfl rfl (by decide) (by omega) ?_; intro ad cp w1 hM3 hs1 hk1 hn1)
                go_roundw
                case rel => exact ⟨j + 1, by omega, by go_num, hM3.cast (by rw [HE.out]; simp [rowI])⟩
                case measure => simp [intOf]; omega
            · obtain rfl : j = A.length := by omega
              rw [List.take_length] at hM hkl
              have HM := Lib.hid hM
              have HK2 := HK.out
              have g4 : (d.kind == 1) = decide (d.kind = 1) := by rw [HK2]; decide
              rw [HK2] at g4
              clear hM hcells HK2 hkt
              go_wp2_with (at_builtin; refine Mem.wp_app1 elemInts rfl (.tmp 62) (.tmp 68) rfl HM.out 0 rfl rfl _ #[.int .i64 d.who] _ _ rfl (by simp) rfl rfl (by decide) (by omega) ?_; intro ad cp w1 hM3 hs1 hk1 hn1)
              go_roundw
              case rel =>
                first
                  | exact ⟨m + 1, by omega, by go_num, (hM3.drop (L' := [rowI 3 (.slice ad ((keepW d.who A).length + 1) cp) (keepW d.who A ++ [d.who])]) (by simp [rowI])).cast (by rw [HS.out, if_pos HK.out]; rfl)⟩
                  | exact ⟨m + 1, by omega, by go_num, (HM.out.drop (L' := [rowI 3 u9 (keepW d.who A)]) (by simp)).cast (by rw [HS.out, if_neg (by rw [HK.out]; decide), List.append_nil]; rfl)⟩
              case measure => simp [intOf]; omega
    · obtain rfl : m = n := by omega
      have HB := Lib.hid hM.below
      clear hM
      go_wp2
      go_ret
      exact ⟨_, rfl, HI.out, HB.out⟩
end Go.Proofs.Ytgmjhoekpbomiaa
