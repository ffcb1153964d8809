/- split: are all numbers below n in just one of two lists? The yes-case. -/
import Derived.Test.YtmmcjjklmcfegaaBase1
import Derived.Test.YtmmcjjklmcfegaaRows
namespace Go.Proofs.Ytmmcjjklmcfegaa
open Go.RowKit Go.Shelf

/-- Which numbers are in a list. -/
def markL (n : Nat) (P : List Int) : List Int := (List.range n).map fun (j : Nat) => if (j : Int) ∈ P then 1 else 0
theorem markL_len (n : Nat) (P : List Int) : (markL n P).length = n := by simp [markL]
theorem markL_at {n : Nat} (P : List Int) {j : Nat} (h : j < n) : (markL n P)[j]? = some (if (j : Int) ∈ P then 1 else 0) := by simp [markL, h]
theorem markL_nil (n : Nat) : markL n [] = List.replicate n 0 := by
  apply List.ext_getElem?
  intro j
  by_cases h : j < n
  · rw [markL_at _ h]; simp [h]
  · simp [markL, h]
theorem markL_snoc {n : Nat} (P : List Int) {i : Nat} (h : i < n) : (markL n P).set i 1 = markL n (P ++ [(i : Int)]) := by
  apply List.ext_getElem?
  intro k
  by_cases hk : k < n
  · rw [List.getElem?_set, markL_len, markL_at P hk, markL_at _ hk]
    by_cases e : i = k
    · subst e; rw [if_pos rfl, if_pos h, if_pos (by simp)]
    · rw [if_neg e]
      congr 1
      have : (k : Int) ∈ P ++ [(i : Int)] ↔ (k : Int) ∈ P := by simp; omega
      simp only [this]
  · rw [List.getElem?_eq_none (by simp [markL_len]; omega), List.getElem?_eq_none (by simp [markL_len]; omega)]
/-- The round that split is in: the list, and what was marked ahead of it. -/
def SplitAt (a b : List Int) (k : Nat) (cur dn : List Int) : Prop := (k = 0 → cur = a ∧ dn = []) ∧ (k = 1 → cur = b ∧ dn = a) ∧ (k = 2 → dn = a ++ b)
set_option maxRecDepth 100000 in
set_option maxHeartbeats 1000000 in
theorem split_yes (n : Nat) (hn : n ≤ 1000) (va vb : Value) (a b : List Int) (w : World) (ha : IsInts w va a) (hb : IsInts w vb b) (hnd : (a ++ b).Nodup) (hr : ∀ x ∈ a ++ b, 0 ≤ x ∧ x < (n : Int)) (hall : ∀ i : Nat, i < n → (i : Int) ∈ a ++ b) :
    Calls Try.prog 27 #[.int .i64 n, va, vb] w fun e w' => e = .returned (.bool true) ∧ Below w.heap.size w w' := by
  have Ha := Lib.hid ha
  have Hb := Lib.hid hb
  have Hnd := Lib.hid hnd
  have Hr := Lib.hid hr
  have Hall := Lib.hid hall
  obtain ⟨aa, ca, rfl, _⟩ := ha.slice
  obtain ⟨ab, cb, rfl, _⟩ := hb.slice
  have hM0 := Mem.start w
  clear ha hb hnd hr hall
  go_enter Try.func27, Try.ntmps27
  go_wp2_with (at_make; refine Mem.wp_makeI elemInts rfl _ _ rfl hM0 _ _ n rfl rfl (by go_num) (by go_num) (by omega) ?_; intro w1 hM1 hb1)
  have hM1b : Mem w.heap.size w w1 [rowI 3 (.slice (some ⟨w.heap.size, 0, none⟩) n n) (markL n [])] := by
    rw [markL_nil]; simpa using hM1
  clear hM1 hb1 hM0
  go_wp2
  go_loopw [8, 1] (fun kv lv wr => ∃ (k : Nat) (cur dn : List Int), k ≤ 2 ∧ kv = .int .i64 k ∧ IsInts w lv cur ∧ SplitAt a b k cur dn ∧ Mem w.heap.size w wr [rowI 3 (.slice (some ⟨w.heap.size, 0, none⟩) n n) (markL n dn)]) (fun kv _ _ => 2 - (intOf kv).toNat)
  case atStart => exact ⟨0, a, [], by omega, rfl, Ha.out, ⟨fun _ => ⟨rfl, rfl⟩, by omega, by omega⟩, hM1b⟩
  case round =>
    clear hM1b
    obtain ⟨k, cur, dn, hk, rfl, hcur, hS, hM⟩ := hrel
    have Hcur := Lib.hid hcur
    have HS := Lib.hid hS
    obtain ⟨ac, cc, rfl, hlc⟩ := hcur.slice
    clear hcur hS
    by_cases hlt : k < 2
    · have hnd2 : (dn ++ cur).Nodup ∧ (∀ x ∈ cur, 0 ≤ x ∧ x < (n : Int)) ∧ SplitAt a b (k + 1) b (dn ++ cur) := by
        obtain ⟨h0, h1, _⟩ := HS.out
        have h2 := Hnd.out
        have h3 := Hr.out
        rcases Nat.lt_or_ge k 1 with h | h
        · obtain rfl : k = 0 := by omega
          obtain ⟨rfl, rfl⟩ := h0 rfl
          exact ⟨by simpa using (List.nodup_append.1 h2).1, fun x hx => h3 x (List.mem_append_left _ hx), by simp, fun _ => ⟨rfl, by simp⟩, by simp⟩
        · obtain rfl : k = 1 := by omega
          obtain ⟨rfl, rfl⟩ := h1 rfl
          exact ⟨h2, fun x hx => h3 x (List.mem_append_right _ hx), by simp, by simp, fun _ => rfl⟩
      have Hnd2 := Lib.hid hnd2
      have HM := Lib.hid hM
      have hm0 : Mem w.heap.size w wr [rowI 3 (.slice (some ⟨w.heap.size, 0, none⟩) n n) (markL n (dn ++ cur.take 0))] := by simpa using hM
      clear hnd2 hM
      have hd : decide ((k : Int) < 2) = true := by simp; omega
      go_wp2
      go_loopw [21] (fun jv wr => ∃ j : Nat, j ≤ cur.length ∧ jv = .int .i64 j ∧ Mem w.heap.size w wr [rowI 3 (.slice (some ⟨w.heap.size, 0, none⟩) n n) (markL n (dn ++ cur.take j))]) (fun jv _ => cur.length - (intOf jv).toNat)
      case atStart => exact ⟨0, Nat.zero_le _, rfl, hm0⟩
      case round =>
        clear hm0
        obtain ⟨j, hj, rfl, hM⟩ := hrel
        by_cases hlj : j < cur.length
        · obtain ⟨x, hx⟩ := get_some _ _ hlj
          obtain ⟨bx, ox, cx, hv, hbx, hnx, c1, _⟩ := Hcur.out.at hM.below hx
          cases hv
          have hxr := Hnd2.out.2.1 x (List.mem_of_getElem? hx)
          obtain ⟨i, rfl⟩ : ∃ i : Nat, x = (i : Int) := ⟨x.toNat, by omega⟩
          have hi : i < n := by omega
          have hts := take_succ_some _ _ _ hx
          have hnot : (i : Int) ∉ dn ++ cur.take j := by
            have h1 : (dn ++ cur.take (j + 1)).Nodup := Hnd2.out.1.sublist (List.Sublist.append (List.Sublist.refl _) (List.take_sublist _ _))
            rw [hts, ← List.append_assoc] at h1
            have := (List.nodup_append.1 h1).2.2
            exact fun hm => this _ hm _ (List.mem_singleton.2 rfl) rfl
          have hat := markL_at (dn ++ cur.take j) hi
          rw [if_neg hnot] at hat
          obtain ⟨q1, q2⟩ := hM.intAt 0 rfl hat
          have hM2 := hM.setI 0 rfl (markL_len _ _) i 1
          have hM3 : Mem w.heap.size w _ [rowI 3 (.slice (some ⟨w.heap.size, 0, none⟩) n n) (markL n (dn ++ cur.take (j + 1)))] := hM2.cast (by rw [hts, ← List.append_assoc, ← markL_snoc _ hi]; rfl)
          have HM3 := Lib.hid hM3
          clear hx hts hnot hat hM hM2 hM3 hxr
          go_wp2
          go_roundw
          case rel => exact ⟨j + 1, by omega, by go_num, HM3.out⟩
          case measure => simp [intOf]; omega
        · obtain rfl : j = cur.length := by omega
          rw [List.take_length] at hM
          have HM := Lib.hid hM
          clear hM
          go_wp2
          go_roundw
          case rel => exact ⟨k + 1, b, dn ++ cur, by omega, by go_num, Hb.out, Hnd2.out.2.2, HM.out⟩
          case measure => simp [intOf]; omega
    · obtain rfl : k = 2 := by omega
      obtain rfl := HS.out.2.2 rfl
      clear HS
      go_wp2
      go_loopw [46] (fun jv wr => ∃ j : Nat, j ≤ n ∧ jv = .int .i64 j ∧ Mem w.heap.size w wr [rowI 3 (.slice (some ⟨w.heap.size, 0, none⟩) n n) (markL n (a ++ b))]) (fun jv _ => n - (intOf jv).toNat)
      case atStart => exact ⟨0, Nat.zero_le _, rfl, hM⟩
      case round =>
        clear hM
        obtain ⟨j, hj, rfl, hM⟩ := hrel
        by_cases hlj : j < n
        · have hat := markL_at (a ++ b) hlj
          rw [if_pos (Hall.out j hlj)] at hat
          obtain ⟨q1, q2⟩ := hM.intAt 0 rfl hat
          have HM := Lib.hid hM
          clear hat hM
          go_wp2
          go_roundw
          case rel => exact ⟨j + 1, by omega, by go_num, HM.out⟩
          case measure => simp [intOf]; omega
        · obtain rfl : n = j := by omega
          have HB := Lib.hid hM.below
          clear hM
          go_wp2
          go_ret
          exact ⟨rfl, HB.out⟩
end Go.Proofs.Ytmmcjjklmcfegaa
