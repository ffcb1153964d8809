/- gone, again, insideAt: walked. -/
import Derived.Test.YtgmjhoekpbomiaaYb
import Derived.Test.YtgmjhoekpbomiaaZk
namespace Go.Proofs.Ytgmjhoekpbomiaa
open Go.RowKit

def leftC (l : List Deed) (cs : List Int) (w : Int) (j k : Nat) : Prop := ∃ m, j ≤ m ∧ m < k ∧ ∃ d, l[m]? = some d ∧ d.kind = 2 ∧ d.who = w ∧ cs[m]? = some 0
theorem leftC_of {T : Nat} {l : List Deed} {w : Int} {j k : Nat} (h : leftIn T l w j k) (hk : k ≤ l.length) : leftC l (ecodes T l l.length) w j k := by
  obtain ⟨m, h1, h2, d, h3, h4, h5, h6⟩ := h
  exact ⟨m, h1, h2, d, h3, h4, h5, by rw [ecodes_get (by omega), h6]⟩
def GoneSays (l : List Deed) (cs : List Int) (who : Int) (j k : Nat) (w w' : World) (e : Ending) : Prop := ∃ b, e = .returned (.bool b) ∧ (leftC l cs who j k → b = true) ∧ Below w.heap.size w w'
set_option maxRecDepth 100000 in
theorem gone_any (v u : Value) (l : List Deed) (cs : List Int) (who : Int) (j k : Nat) (w : World) (hl : IsTup 3 encD w v l) (hc : IsInts w u cs) (hlen : l.length = cs.length) (hk : k ≤ l.length) :
    Calls Try.prog 17 #[v, u, .int .i64 who, .int .i64 j, .int .i64 k] w fun e w' => GoneSays l cs who j k w w' e := by
  have Hl := Lib.hid hl
  have Hc := Lib.hid hc
  have Hlen := Lib.hid hlen
  obtain ⟨a, cap, rfl, hm⟩ := hl.slice
  obtain ⟨a', cap', rfl, hm'⟩ := hc.slice
  clear hl hc hlen
  go_enter Try.func17, Try.ntmps17
  go_wp2
  go_loopw [11] (fun i wr => ∃ m : Nat, i = .int .i64 m ∧ (j ≤ k → m ≤ k) ∧ (∀ n, j ≤ n → n < m → ¬ leftC l cs who n (n + 1)) ∧ w = wr) (fun i _ => k - (intOf i).toNat)
  case atStart => exact ⟨j, rfl, fun h => h, fun n h1 h2 => by omega, rfl⟩
  case round =>
    obtain ⟨m, rfl, hmk, hN, rfl⟩ := hrel
    have HN := Lib.hid hN
    clear hN
    by_cases hlt : m < k
    · obtain ⟨d, hd⟩ := get_some l m (by omega)
      obtain ⟨x, hx⟩ := get_some cs m (by have := Hlen.out; omega)
      have hlc : m < cs.length := by have := Hlen.out; omega
      have hll : m < l.length := by omega
      obtain ⟨b, off, cap2, hv, _, hn, hcells⟩ := Hl.out.at (Below.refl _ _) hd
      cases hv
      have h1 := hcells 0 _ rfl
      have h2 := hcells 1 _ rfl
      rw [Nat.add_zero] at h1
      obtain ⟨b', off', cap3, hv, _, hn', h4, _⟩ := Hc.out.at (Below.refl _ _) hx
      cases hv
      by_cases hall : d.kind = 2 ∧ d.who = who ∧ x = 0
      · obtain ⟨e1, e2, e3⟩ := hall
        have g1 : (d.kind == 2) = true := by simp [e1]
        have g2 : (d.who == who) = true := by simp [e2]
        have g3 : (x == 0) = true := by simp [e3]
        clear hd hx hcells e1 e2 e3
        go_wp2
        go_ret
        exact ⟨true, rfl, fun _ => rfl, Below.refl _ _⟩
      · have hno : ¬ leftC l cs who m (m + 1) := by
          rintro ⟨n, h5, h6, d', h7, h8, h9, h10⟩
          obtain rfl : n = m := by omega
          rw [hd] at h7; cases h7
          rw [hx] at h10; cases h10
          exact hall ⟨h8, h9, rfl⟩
        have HNo := Lib.hid hno
        clear hno
        have hrel2 : Hid (∀ n, j ≤ n → n < m + 1 → ¬ leftC l cs who n (n + 1)) := Lib.hid (fun n h5 h6 => by
          by_cases e : n = m
          · subst e; exact HNo.out
          · exact HN.out n h5 (by omega))
        have hways : (d.kind == 2) = false ∨ ((d.kind == 2) = true ∧ (d.who == who) = false) ∨ ((d.kind == 2) = true ∧ (d.who == who) = true ∧ (x == 0) = false) := by
          by_cases e1 : d.kind = 2
          · by_cases e2 : d.who = who
            · exact .inr (.inr ⟨by simp [e1], by simp [e2], by simpa using fun e3 => hall ⟨e1, e2, e3⟩⟩)
            · exact .inr (.inl ⟨by simp [e1], by simpa using e2⟩)
          · exact .inl (by simpa using e1)
        clear hd hx hcells hall HN HNo
        rcases hways with g1 | ⟨g1, g2⟩ | ⟨g1, g2, g3⟩
        all_goals
          go_wp2
          go_roundw
          case rel => exact ⟨m + 1, by go_num, fun _ => by omega, hrel2.out, trivial⟩
          case measure => simp [intOf]; omega
    · have hend : Hid (¬ leftC l cs who j k) := Lib.hid (by
        rintro ⟨n, h5, h6, h7⟩
        exact HN.out n h5 (by omega) ⟨n, Nat.le_refl _, by omega, h7⟩)
      clear HN
      go_wp2
      go_ret
      exact ⟨false, rfl, fun h => absurd h hend.out, Below.refl _ _⟩
set_option maxRecDepth 100000 in
theorem again_any (v : Value) (l : List Deed) (item : Int) (w : World) (hl : IsTup 3 encD w v l) (hsm : l.length ≤ 1000) :
    Calls Try.prog 18 #[v, .int .i64 item] w fun e w' => e = .returned (.bool (decide (2 ≤ l.countP (retOf item)))) ∧ Below w.heap.size w w' := by
  have Hl := Lib.hid hl
  obtain ⟨a, cap, rfl, hm⟩ := hl.slice
  obtain ⟨N, hN⟩ : ∃ N, l.countP (retOf item) = N := ⟨_, rfl⟩
  rw [hN]
  have HN := Lib.hid hN
  clear hl hN
  go_enter Try.func18, Try.ntmps18
  go_wp2
  go_loopw [5, 10] (fun n i wr => ∃ m : Nat, m ≤ l.length ∧ i = .int .i64 m ∧ n = .int .i64 (((l.take m).countP (retOf item) : Nat) : Int) ∧ Below w.heap.size w wr) (fun _ i _ => l.length - (intOf i).toNat)
  case atStart => exact ⟨0, Nat.zero_le _, rfl, rfl, Below.refl _ _⟩
  case round =>
    obtain ⟨m, hmk, rfl, rfl, hB⟩ := hrel
    obtain ⟨c, hc⟩ : ∃ c, (l.take m).countP (retOf item) = c := ⟨_, rfl⟩
    have hcl : c ≤ m := by rw [← hc]; exact Nat.le_trans List.countP_le_length (List.length_take_le _ _)
    rw [hc]
    by_cases hlt : m < l.length
    · obtain ⟨d, hd⟩ := get_some l m hlt
      obtain ⟨b, off, cap2, hv, _, hn, hcells⟩ := Hl.out.at hB hd
      cases hv
      have h1 := hcells 0 _ rfl
      have h2 := hcells 1 _ rfl
      have h3 := hcells 2 _ rfl
      rw [Nat.add_zero] at h1
      have hs : (l.take (m + 1)).countP (retOf item) = c + if retOf item d = true then 1 else 0 := by
        rw [take_succ_some _ _ _ hd, List.countP_append, hc, List.countP_singleton]
      have HB := Lib.hid (hB.alloc hB.size (.cells #[.int .i64 d.kind, .int .i64 d.who, .int .i64 d.item] 34))
      clear hB hcells hd hc
      by_cases e1 : d.kind = 3
      · have g1 : (d.kind == 3) = true := by simp [e1]
        by_cases e2 : d.item = item
        · have g2 : (d.item == item) = true := by simp [e2]
          rw [show retOf item d = true by simp [retOf, e1, e2], if_pos rfl] at hs
          have Hs := Lib.hid hs
          clear hs e1 e2
          go_wp2
          go_roundw
          case rel => exact ⟨m + 1, by omega, by go_num, by rw [Hs.out]; simp, HB.out⟩
          case measure => simp [intOf]; omega
        · have g2 : (d.item == item) = false := by simpa using e2
          rw [show retOf item d = false by simp [retOf, e2], if_neg (by decide), Nat.add_zero] at hs
          have Hs := Lib.hid hs
          clear hs e1 e2
          go_wp2
          go_roundw
          case rel => exact ⟨m + 1, by omega, by go_num, by rw [Hs.out, Nat.add_zero], HB.out⟩
          case measure => simp [intOf]; omega
      · have g1 : (d.kind == 3) = false := by simpa using e1
        rw [show retOf item d = false by simp [retOf, e1], if_neg (by decide), Nat.add_zero] at hs
        have Hs := Lib.hid hs
        clear hs e1
        go_wp2
        go_roundw
        case rel => exact ⟨m + 1, by omega, by go_num, by rw [Hs.out, Nat.add_zero], HB.out⟩
        case measure => simp [intOf]; omega
    · obtain rfl : m = l.length := by omega
      rw [List.take_length, HN.out] at hc
      subst hc
      have HB := Lib.hid hB
      clear hB
      go_wp2
      go_ret
      exact ⟨by congr 2; simp; omega, HB.out⟩
end Go.Proofs.Ytgmjhoekpbomiaa
