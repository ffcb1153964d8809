/- Scripts of asks with more behind; Blocks. -/
import Derived.Test.YtmbcfbehchpfbaaUs
namespace Go.Proofs.Ytmbcfbehchpfbaa
open Go.RowKit

theorem elemAsks : Elem Try.prog 22 36 2 16 (.agg #[.int .i64 0, .int .i64 0]) := ⟨by kernel_rfl, info_parts (by kernel_rfl), rfl, by decide⟩
theorem encA_one (a : Int × Int) : ∀ v ∈ encA a, v.oneCell' = true := by simp [encA]; exact ⟨rfl, rfl⟩
section
variable {P : Program} {B : Nat} {w0 w : World} {L : List Ent} {t e : TypeId} {z : Value} {α : Type} {sz bytes : Nat} {enc : α → List Value}
/-- append(l, m...): a list that lies anywhere (nil, too) behind a list of the call's own. -/
theorem Mem.run_appTs (T : Elem P t e sz bytes z) (hz : ∀ x, (enc x).length = sz) (h1 : ∀ x, ∀ v ∈ enc x, v.oneCell' = true) (ty : TypeId) (h : Mem B w0 w L) (k : Nat) {v u : Value} {l m : List α} (hk : L[k]? = some (rowT e sz enc v l)) (hu : IsTup sz enc w u m) (hl : l.length + m.length ≤ 1000000) (hb : bytes ≤ 1000) :
    ∃ v' w', (Builtin.append_ #[t, t] ty #[v, u]).run P w = .ok v' w' ∧ Mem B w0 w' (L.set k (rowT e sz enc v' (l ++ m))) ∧ w.heap.size ≤ w'.heap.size ∧
      (∀ b, b < w.heap.size → v.ownBlock ≠ some b → w'.heap[b]? = w.heap[b]?) ∧ ∃ ad cap, v' = .slice ad (l.length + m.length) cap := by
  obtain ⟨a, c, rfl, hm⟩ := hu.slice
  have hrow := h.row k hk
  by_cases h0 : m = []
  · subst h0
    cases a with
    | none =>
      obtain ⟨i, hi, hz, hsz, hby⟩ := T.info
      refine ⟨v, w, ?_, ?_, Nat.le_refl _, fun _ _ _ => rfl, ?_⟩
      · rcases hrow.2 with ⟨rfl, _⟩ | ⟨g, cap, cur, rfl, _, _, hnc, _⟩
        · simp [Builtin.append_, run_underlying T.under, sizeOf, typeInfo, hi, Builtin.lenOf, Builtin.firstCells]
        · simp [Builtin.append_, run_underlying T.under, sizeOf, typeInfo, hi, Builtin.lenOf, Builtin.firstCells, hnc, storeCells]
      · have hkl : k < L.length := (List.getElem?_eq_some_iff.1 hk).1
        have hxe : L[k] = rowT e sz enc v l := by simpa [List.getElem?_eq_getElem hkl] using hk
        refine h.cast ?_
        rw [List.append_nil, ← hxe, List.set_getElem_self]
      · rcases hrow.2 with ⟨rfl, hn⟩ | ⟨g, cap, cur, rfl, _⟩
        · exact ⟨none, 0, by rw [hn]; rfl⟩
        · exact ⟨_, cap, rfl⟩
    | some a =>
      obtain ⟨v', w', h1, h2, h3, h4, _, ad, cap, rfl⟩ := h.run_append T ty k hk a 0 c [] (by simp) (by intro j u hj; cases hj) (by simp) (by simp only [maxLen]; simp at hl; omega) (by have := Nat.mul_le_mul (show l.length + 0 ≤ 1000000 by simpa using hl) hb; omega)
      exact ⟨_, w', h1, h2.cast (by simp [rowT]), h3, h4, ad, cap, rfl⟩
  · obtain ⟨x, hx⟩ := get_some m 0 (by cases m with | nil => exact absurd rfl h0 | cons => simp)
    obtain ⟨b, off, cap2, hv, _⟩ := hu.at (Below.refl _ _) hx
    cases hv
    obtain ⟨v', w', h1, h2, h3, h4, _, ad, cap, rfl⟩ := h.run_append T ty k hk ⟨b, off, none⟩ m.length c (m.flatMap enc) (length_tup hz m) (by
      intro j u hj
      have hs : 0 < sz := T.pos
      have hjl := (List.getElem?_eq_some_iff.1 hj).1
      rw [length_tup hz] at hjl
      have hq : j / sz < m.length := Nat.div_lt_of_lt_mul (by rw [Nat.mul_comm]; exact hjl)
      obtain ⟨y, hy⟩ := get_some m (j / sz) hq
      obtain ⟨b', off', cap3, hv, _, _, hc⟩ := hu.at (Below.refl _ _) hy
      cases hv
      obtain ⟨u2, hu2⟩ := get_some (enc y) (j % sz) (by rw [hz]; exact Nat.mod_lt _ hs)
      have h5 := getElem_tup hz m (j / sz) y hy (j % sz) u2 hu2
      have h6 : j / sz * sz + j % sz = j := by rw [Nat.mul_comm]; exact Nat.div_add_mod j sz
      rw [h6, hj] at h5
      cases h5
      have h7 := hc (j % sz) u hu2
      rw [Nat.add_assoc, h6] at h7
      rw [Addr.add_lit]; exact h7) (by intro u hu; obtain ⟨y, _, h8⟩ := List.mem_flatMap.1 hu; exact h1 y u h8) (by simp only [maxLen]; omega) (by have := Nat.mul_le_mul hl hb; omega)
    exact ⟨_, w', h1, h2.cast (by simp [rowT]), h3, h4, ad, cap, rfl⟩
end
def optB (b : Nat × Nat) : Value := .agg #[.int .i64 (b.1 : Int), .int .i64 (b.2 : Int)]
set_option maxRecDepth 100000 in
set_option maxHeartbeats 1000000 in
/-- Blocks: are two lists of blocks the same? -/
theorem blocks_any (u v : Value) (l m : List (Nat × Nat)) (w : World) (hl : IsTup 2 encB w u l) (hm : IsTup 2 encB w v m) :
    Calls Try.prog 16 #[u, v] w fun e w' => e = .returned (.bool (decide (l = m))) ∧ Below w.heap.size w w' := by
  obtain ⟨a, cap, rfl, hl1⟩ := hl.slice
  obtain ⟨a', cap', rfl, hl2⟩ := hm.slice
  have Hl := Lib.hid hl
  have Hm := Lib.hid hm
  clear hl hm
  by_cases hlen : l.length = m.length
  · obtain ⟨N, hN⟩ : ∃ N, l.length = N := ⟨_, rfl⟩
    rw [hN] at hlen hl1 ⊢
    rw [← hlen]
    have HN := Lib.hid hN
    have HN2 := Lib.hid hlen
    clear hN hlen hl2
    go_enter Try.func16, Try.ntmps16
    go_wp2
    go_loopw [5] (fun i wr => ∃ k : Nat, k ≤ N ∧ i = .int .i64 k ∧ l.take k = m.take k ∧ Below w.heap.size w wr) (fun i _ => N - (intOf i).toNat)
    case atStart => exact ⟨0, Nat.zero_le _, rfl, rfl, Below.refl _ _⟩
    case round =>
      obtain ⟨k, hk, rfl, hT, hB⟩ := hrel
      have HT := Lib.hid hT
      clear hT
      by_cases hlt : k < N
      · obtain ⟨x, hx⟩ := get_some l k (by rw [HN.out]; exact hlt)
        obtain ⟨y, hy⟩ := get_some m k (by rw [← HN2.out]; exact hlt)
        obtain ⟨b, off, cap2, hv, hb, hn, cc⟩ := Hl.out.at hB hx
        rw [HN.out] at hv
        cases hv
        obtain ⟨b', off', cap2', hv', hb', hn', dd⟩ := Hm.out.at hB hy
        rw [← HN2.out] at hv'
        cases hv'
        have c0 := cc 0 _ rfl
        have c1 := cc 1 _ rfl
        have d0 := dd 0 _ rfl
        have d1 := dd 1 _ rfl
        rw [Nat.add_zero] at c0 d0
        have r1 : (k : Int) < (N : Int) := by omega
        have r4 : (0 : Int) ≤ (k : Int) := by omega
        have HB := Lib.hid hB
        by_cases he : x = y
        · subst he
          have HT2 : Hid (l.take (k + 1) = m.take (k + 1)) := Lib.hid (by rw [take_succ_some _ _ _ hx, take_succ_some _ _ _ hy, HT.out])
          clear hB hx hy cc dd
          go_wp2
          go_quiet (fail)
          go_wp2
          go_roundw
          case rel => exact ⟨k + 1, by omega, by go_num, HT2.out, below_drewN HB.out _⟩
          case measure => simp [intOf]; omega
        · have hne : decide (l = m) = false := decide_eq_false (by rintro rfl; rw [hx] at hy; cases hy; exact he rfl)
          have HNE := Lib.hid hne
          obtain ⟨x1, x2⟩ := x
          obtain ⟨y1, y2⟩ := y
          clear hB hx hy cc dd hne
          by_cases h1 : x1 = y1
          · have h2 : x2 ≠ y2 := fun e => he (by rw [h1, e])
            subst h1
            have q : ((x2 : Int) == (y2 : Int)) = false := beq_eq_false_iff_ne.2 (by omega)
            clear he h2
            go_wp2
            go_quiet (fail)
            go_wp2
            go_ret
            exact ⟨by rw [HNE.out]; rfl, below_drewN HB.out _⟩
          · have q : ((x1 : Int) == (y1 : Int)) = false := beq_eq_false_iff_ne.2 (by omega)
            clear he h1
            go_wp2
            go_quiet (fail)
            go_wp2
            go_ret
            exact ⟨by rw [HNE.out]; rfl, below_drewN HB.out _⟩
      · have hT : l = m := by
          have h1 := HT.out
          obtain rfl : k = N := by omega
          rw [← HN.out, List.take_length, HN.out, HN2.out, List.take_length] at h1
          exact h1
        have HE : Hid (decide (l = m) = true) := Lib.hid (decide_eq_true hT)
        have HB := Lib.hid hB
        clear hB hT
        go_wp2
        go_ret
        exact ⟨by rw [HE.out]; rfl, HB.out⟩
  · have hne : decide (l = m) = false := decide_eq_false (fun e => hlen (by rw [e]))
    have HNE := Lib.hid hne
    have q : ((l.length : Int) != (m.length : Int)) = true := by simp; omega
    clear hne hlen
    go_enter Try.func16, Try.ntmps16
    go_wp2
    go_ret
    exact ⟨by rw [HNE.out]; rfl, Below.refl _ _⟩
end Go.Proofs.Ytmbcfbehchpfbaa
