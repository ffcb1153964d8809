/- Handles: make and drop, walked. -/
import Derived.Test.YthlllbpilcapiaaDoorVf
namespace Go.Proofs.YthlllbpilcapiaaDoor
open Go.RowKit

theorem set_slot {t : List Slot} {i j : Nat} {s y : Slot} {u : Value} (hb : t[i]? = some s) (hj : j < 3) (hy : encS y = (encS s).set j u) : (t.flatMap encS).set (i * 3 + j) u = (t.set i y).flatMap encS := by
  induction t generalizing i with
  | nil => simp at hb
  | cons x t ih =>
    cases i with
    | zero =>
      simp at hb; subst hb
      rw [List.set_cons_zero, List.flatMap_cons, List.flatMap_cons, hy, Nat.zero_mul, Nat.zero_add, List.set_append_left _ _ (by rw [encS_len]; exact hj)]
    | succ i =>
      rw [List.set_cons_succ, List.flatMap_cons, List.flatMap_cons, List.set_append_right _ _ (by rw [encS_len]; omega), encS_len, show (i + 1) * 3 + j - 3 = i * 3 + j by omega, ih (by simpa using hb)]
theorem freeAtH_is {t : List Slot} {k : Nat} {s : Slot} (hs : t[k]? = some s) (ho : openS s = true) (hb : ∀ j, j < k → ∀ y, t[j]? = some y → openS y = false) : freeAtH t = some k := by
  unfold freeAtH
  obtain ⟨hk, hsk⟩ := List.getElem?_eq_some_iff.1 hs
  rw [List.findIdx?_eq_some_iff_getElem]
  refine ⟨hk, by rw [hsk]; exact ho, fun j hj => ?_⟩
  have := hb j hj _ (List.getElem?_eq_getElem (by omega))
  rw [this]; simp
theorem freeAtH_no {t : List Slot} (hb : ∀ j, j < t.length → ∀ y, t[j]? = some y → openS y = false) : freeAtH t = none := by
  unfold freeAtH
  rw [List.findIdx?_eq_none_iff]
  intro y hy
  obtain ⟨j, hj, rfl⟩ := List.mem_iff_getElem.1 hy
  exact hb j hj _ (List.getElem?_eq_getElem hj)
def MakeSays (B : Nat) (w0 : World) (bt g n cap : Nat) (t : List Slot) (L' : List Ent) (r : Option (Int × List Slot)) (e : Ending) (w' : World) : Prop :=
  match r with
  | none => e = .returned (.tuple #[.int .i64 0, .iface 50 (.int .i64 6)]) ∧ Mem B w0 w' (ownT bt g n cap t ++ L')
  | some (h, t') => e = .returned (.tuple #[.int .i64 h, .nilIface]) ∧ Mem B w0 w' (ownT bt g n cap t' ++ L')
set_option maxRecDepth 100000 in
set_option maxHeartbeats 1000000 in
theorem make_any (B : Nat) (w0 w : World) (bt g n cap : Nat) (t : List Slot) (x : Int) (L' : List Ent) (hM : Mem B w0 w (ownT bt g n cap t ++ L')) (hn : t.length = n) (hn32 : n ≤ 32) (hver : ∀ s ∈ t, s.2.1 ≤ 4) :
    Calls Tryd.prog 8 #[.pointer (some ⟨bt, 0, none⟩), .int .i64 x] w (MakeSays B w0 bt g n cap t L' (makeH t x)) := by
  have c0 : w.cell? ⟨bt, 0, none⟩ = some (.slice (some ⟨g, 0, none⟩) n cap) := by have := hM.cell 0 rfl 0; simpa using this
  have zt : bt < w.heap.size := (hM.box 0 rfl).2.1
  have HM := Lib.hid hM
  have HN := Lib.hid hn
  clear hM hn
  go_enter Tryd.func8, Tryd.ntmps8
  go_wp2
  go_loopw [13] (fun i wr => ∃ k : Nat, k ≤ n ∧ i = .int .i64 (k : Int) ∧ Mem B w0 wr (ownT bt g n cap t ++ L') ∧ ∀ j, j < k → ∀ y, t[j]? = some y → openS y = false) (fun i _ => n - (intOf i).toNat)
  case atStart => exact ⟨0, Nat.zero_le _, rfl, HM.out, fun j hj => absurd hj (Nat.not_lt_zero _)⟩
  case round =>
    clear HM c0 zt
    obtain ⟨k, hk, rfl, hM, hpre⟩ := hrel
    by_cases hlt : k < n
    · obtain ⟨s, hs⟩ := get_some t k (by rw [HN.out]; exact hlt)
      have hcs := hM.tupAt 1 (i := k) (x := s) rfl encS_len hs
      have d0 := (hcs 0 _ rfl).1
      have f0 := (hcs 0 _ rfl).2
      have d1 := (hcs 1 _ rfl).1
      have d2 := (hcs 2 _ rfl).1
      have f2 := (hcs 2 _ rfl).2
      rw [Nat.add_zero] at d0 f0
      have c0 : wr.cell? ⟨bt, 0, none⟩ = some (.slice (some ⟨g, 0, none⟩) n cap) := by have := hM.cell 0 rfl 0; simpa using this
      have zt : bt < wr.heap.size := (hM.box 0 rfl).2.1
      have zg : g < wr.heap.size := ((hM.row 1 rfl).lt g rfl).2
      have hv4 := hver s (List.mem_of_getElem? hs)
      have i0 : (0 : Int) ≤ (k : Int) := by omega
      have i1 : (k : Int) < (n : Int) := by omega
      have HMr := Lib.hid hM
      have HP := Lib.hid hpre
      have HS := Lib.hid hs
      obtain ⟨sx, sv, su⟩ := s
      simp only at d0 d1 d2 hv4
      cases su with
      | true =>
        have hop : openS (sx, sv, true) = false := rfl
        clear hM hpre hcs hs
        go_wp2
        go_roundw
        case rel =>
          refine ⟨k + 1, by omega, by go_num, HMr.out, fun j hj y hy => ?_⟩
          rcases Nat.lt_or_ge j k with h1 | h1
          · exact HP.out j h1 y hy
          · obtain rfl : j = k := by omega
            have h3 := HS.out
            rw [hy] at h3; cases h3; exact hop
        case measure => simp [intOf]; omega
      | false =>
        by_cases h3 : sv ≤ 3
        · have e1 : decide ((sv : Int) ≤ 3) = true := decide_eq_true (by omega)
          have e2 : decide (sv ≤ 3) = true := decide_eq_true h3
          have hop : openS (sx, sv, false) = true := by simp [openS, h3]
          have hfr := freeAtH_is hs hop hpre
          have hmk : makeH t x = some ((sv : Int) * 32 + (k : Int), t.set k (x, sv, true)) := by
            unfold makeH; rw [hfr]; simp only [getD_slot hs]
          have HK := Lib.hid hmk
          have hset1 : (t.flatMap encS).set (k * 3) (.int .i64 x) = (t.set k (x, sv, false)).flatMap encS := set_slot (j := 0) hs (by omega) rfl
          have hs2 : (t.set k (x, sv, false))[k]? = some (x, sv, false) := by rw [List.getElem?_set_self (by rw [HN.out]; exact hlt)]
          have hset2 : ((t.set k (x, sv, false)).flatMap encS).set (k * 3 + 2) (.bool true) = (t.set k (x, sv, true)).flatMap encS := by
            have := set_slot (y := (x, sv, true)) (u := .bool true) (j := 2) hs2 (by omega) rfl
            rw [List.set_set] at this; exact this
          have hM1 := hM.setT 1 rfl HN.out (k * 3) (.int .i64 x) hset1 (by simp)
          have hM2 := hM1.setT 1 rfl (by simpa using HN.out) (k * 3 + 2) (.bool true) hset2 (by simp)
          have hM3 : Mem B w0 ((wr.setCell ⟨g, k * 3, none⟩ (.int .i64 x)).setCell ⟨g, k * 3 + 2, none⟩ (.bool true)) (ownT bt g n cap (t.set k (x, sv, true)) ++ L') := hM2
          have HM3 := Lib.hid hM3
          clear hM hpre hcs hs hfr hmk hset1 hs2 hset2 hM1 hM2 hM3
          go_wp2
          go_ret2
          rw [HK.out]
          exact ⟨rfl, HM3.out⟩
        · have e1 : decide ((sv : Int) ≤ 3) = false := decide_eq_false (by omega)
          have e2 : decide (sv ≤ 3) = false := decide_eq_false h3
          have hop : openS (sx, sv, false) = false := by simp [openS]; omega
          clear hM hpre hcs hs
          go_wp2
          go_roundw
          case rel =>
            refine ⟨k + 1, by omega, by go_num, HMr.out, fun j hj y hy => ?_⟩
            rcases Nat.lt_or_ge j k with h1 | h1
            · exact HP.out j h1 y hy
            · obtain rfl : j = k := by omega
              have h3 := HS.out
              rw [hy] at h3; cases h3; exact hop
          case measure => simp [intOf]; omega
    · obtain rfl : k = n := by omega
      have hmk : makeH t x = none := by
        unfold makeH
        rw [freeAtH_no (by rw [HN.out]; exact hpre)]
      have HK := Lib.hid hmk
      have HMr := Lib.hid hM
      clear hM hpre hmk
      go_wp2
      go_ret2
      rw [HK.out]
      exact ⟨rfl, HMr.out⟩
def DropSays (B : Nat) (w0 : World) (bt g n cap : Nat) (t : List Slot) (L' : List Ent) (r : Option (List Slot)) (e : Ending) (w' : World) : Prop :=
  match r with
  | none => e = .returned (.iface 50 (.int .i64 2)) ∧ Mem B w0 w' (ownT bt g n cap t ++ L')
  | some t' => e = .returned .nilIface ∧ Mem B w0 w' (ownT bt g n cap t' ++ L')
set_option maxRecDepth 100000 in
set_option maxHeartbeats 1000000 in
theorem drop_any (B : Nat) (w0 w : World) (bt g n cap : Nat) (t : List Slot) (h : Int) (L' : List Ent) (hM : Mem B w0 w (ownT bt g n cap t ++ L')) (hn : t.length = n) (h64 : i64ok h) (hver : ∀ s ∈ t, s.2.1 ≤ 4) :
    Calls Tryd.prog 9 #[.pointer (some ⟨bt, 0, none⟩), .int .i64 h] w (DropSays B w0 bt g n cap t L' (dropH t h)) := by
  have HF := Lib.hid (find_any B w0 w bt g n cap t h L' hM hn h64)
  have HN := Lib.hid hn
  cases hf : findH t h with
  | none =>
    have hd : dropH t h = none := by unfold dropH; rw [hf]
    have HD := Lib.hid hd
    rw [hf] at HF
    clear hM hn hd hf
    go_enter Tryd.func9, Tryd.ntmps9
    go_wp2_with fail
    with_reducible refine HF.out.mono ?_
    rintro e w1 ⟨rfl, hM1⟩
    have HM1 := Lib.hid hM1
    clear hM1 HF
    go_wp2
    go_ret
    rw [HD.out]
    exact ⟨rfl, HM1.out⟩
  | some i =>
    obtain ⟨y, v, hs, hg⟩ := findH_some hf
    have hil := (List.getElem?_eq_some_iff.1 hs).1
    have hv4 := hver _ (List.mem_of_getElem? hs)
    have hd : dropH t h = some (t.set i (0, v + 1, false)) := by unfold dropH; rw [hf]; simp only [getD_slot hs]
    have HD := Lib.hid hd
    rw [hf] at HF
    simp only at hv4
    have HS := Lib.hid hs
    clear hM hn hd hf hg hs
    go_enter Tryd.func9, Tryd.ntmps9
    go_wp2_with fail
    with_reducible refine HF.out.mono ?_
    rintro e w1 ⟨rfl, hM1⟩
    have hcs := hM1.tupAt 1 (i := i) rfl encS_len HS.out
    have d0 := (hcs 0 _ rfl).1
    have f0 := (hcs 0 _ rfl).2
    have d1 := (hcs 1 _ rfl).1
    have f1 := (hcs 1 _ rfl).2
    have d2 := (hcs 2 _ rfl).1
    have f2 := (hcs 2 _ rfl).2
    rw [Nat.add_zero] at d0 f0
    have zg : g < w1.heap.size := ((hM1.row 1 rfl).lt g rfl).2
    have hs := HS.out
    have a1 : (t.flatMap encS).set (i * 3) (.int .i64 0) = (t.set i (0, v, true)).flatMap encS := set_slot (j := 0) hs (by omega) rfl
    have b1 : (t.set i (0, v, true))[i]? = some (0, v, true) := by rw [List.getElem?_set_self hil]
    have a2 : ((t.set i (0, v, true)).flatMap encS).set (i * 3 + 1) (.int .i64 ((v : Int) + 1)) = (t.set i (0, v + 1, true)).flatMap encS := by
      have := set_slot (y := (0, v + 1, true)) (u := .int .i64 ((v : Int) + 1)) (j := 1) b1 (by omega) rfl
      rw [List.set_set] at this; exact this
    have b2 : (t.set i (0, v + 1, true))[i]? = some (0, v + 1, true) := by rw [List.getElem?_set_self hil]
    have a3 : ((t.set i (0, v + 1, true)).flatMap encS).set (i * 3 + 2) (.bool false) = (t.set i (0, v + 1, false)).flatMap encS := by
      have := set_slot (y := (0, v + 1, false)) (u := .bool false) (j := 2) b2 (by omega) rfl
      rw [List.set_set] at this; exact this
    have hM2 := hM1.setT 1 rfl HN.out (i * 3) (.int .i64 0) a1 (by simp)
    have hM3 := hM2.setT 1 rfl (by simpa using HN.out) (i * 3 + 1) (.int .i64 ((v : Int) + 1)) a2 (by simp)
    have hM4 := hM3.setT 1 rfl (by simpa using HN.out) (i * 3 + 2) (.bool false) a3 (by simp)
    have HM4 : Hid (Mem B w0 (((w1.setCell ⟨g, i * 3, none⟩ (.int .i64 0)).setCell ⟨g, i * 3 + 1, none⟩ (.int .i64 ((v : Int) + 1))).setCell ⟨g, i * 3 + 2, none⟩ (.bool false)) (ownT bt g n cap (t.set i (0, v + 1, false)) ++ L')) := Lib.hid hM4
    clear hM1 HF hcs hs a1 a2 a3 b1 b2 hM2 hM3 hM4
    go_wp2
    go_ret
    rw [HD.out]
    exact ⟨rfl, HM4.out⟩
end Go.Proofs.YthlllbpilcapiaaDoor
