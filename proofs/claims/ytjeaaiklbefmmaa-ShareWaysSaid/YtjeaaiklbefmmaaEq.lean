/- slices.Equal on values, slices.EqualFunc on objects; graph.Same. -/
import Derived.Test.YtjeaaiklbefmmaaCa
import Derived.BigQuiet
namespace Go.Proofs.Ytjeaaiklbefmmaa
open Go.RowKit Go.Shelf

deriving instance DecidableEq for G

theorem take_ne {α : Type} {l m : List α} {k : Nat} {x y : α} (hx : l[k]? = some x) (hy : m[k]? = some y) (h : x ≠ y) : l ≠ m := by
  rintro rfl
  rw [hx] at hy; cases hy; exact h rfl

set_option maxRecDepth 100000 in
set_option maxHeartbeats 400000 in
theorem equalV_any (u v : Value) (l m : List V) (w : World) (hl : IsVals w u l) (hm : IsVals w v m) :
    Calls Try.prog 48 #[u, v] w fun e w' => e = .returned (.bool (decide (l = m))) ∧ Below w.heap.size w w' := by
  obtain ⟨a, cap, rfl, hl0⟩ := hl.slice
  obtain ⟨a', cap', rfl, hm0⟩ := hm.slice
  have Hl := Lib.hid hl
  have Hm := Lib.hid hm
  clear hl hm
  by_cases hlen : l.length = m.length
  · have Hlen := Lib.hid hlen
    have hlen2 : (m.length : Int) = l.length := by omega
    go_enter Try.func48, Try.ntmps48
    go_wp2
    clear hlen hlen2
    go_loopw [13] (fun i wr => ∃ k : Nat, k ≤ l.length ∧ i = .int .i64 k ∧ l.take k = m.take k ∧ Below w.heap.size w wr) (fun i _ => l.length - (intOf i).toNat)
    case atStart => exact ⟨0, Nat.zero_le _, rfl, rfl, Below.refl _ _⟩
    case round =>
      obtain ⟨k, hk, rfl, hT, hB⟩ := hrel
      by_cases hlt : k < l.length
      · obtain ⟨x, hx⟩ := get_some _ _ hlt
        obtain ⟨y, hy⟩ := get_some m k (by have := Hlen.out; omega)
        have hltm : k < m.length := by have := Hlen.out; omega
        obtain ⟨b, off, cap2, hv, hb, hn, c1, c2, _⟩ := Hl.out.at hB hx
        cases hv
        obtain ⟨b', off', cap2', hv', hb', hn', d1, d2, _⟩ := Hm.out.at hB hy
        cases hv'
        have HS := Lib.hid (take_succ_some _ _ _ hx)
        have HS2 := Lib.hid (take_succ_some _ _ _ hy)
        have Hx := Lib.hid hx
        have Hy := Lib.hid hy
        have HT := Lib.hid hT
        clear hx hy hT
        obtain ⟨r, n⟩ := x
        obtain ⟨r', n'⟩ := y
        by_cases hxy : r = r' ∧ n = n'
        · obtain ⟨rfl, rfl⟩ := hxy
          go_wp2
          go_quiet (fail)
          go_wp2
          go_roundw
          case rel => exact ⟨k + 1, by omega, by go_num, by rw [HS.out, HS2.out, HT.out], hB.trans ⟨rfl, rfl, rfl, Nat.le_refl _, fun _ _ => rfl⟩⟩
          case measure => simp [intOf]; omega
        · have hne : l ≠ m := take_ne Hx.out Hy.out (by intro e; cases e; exact hxy ⟨rfl, rfl⟩)
          have Hne := Lib.hid hne
          clear hne
          cases r <;> cases r'
          · have hn : ¬ n = n' := fun e => hxy ⟨rfl, e⟩
            clear hxy
            go_wp2
            go_quiet (fail)
            go_wp2
            go_ret
            exact ⟨by simp [Hne.out], hB.trans ⟨rfl, rfl, rfl, Nat.le_refl _, fun _ _ => rfl⟩⟩
          · clear hxy
            go_wp2
            go_quiet (fail)
            go_wp2
            go_ret
            exact ⟨by simp [Hne.out], hB.trans ⟨rfl, rfl, rfl, Nat.le_refl _, fun _ _ => rfl⟩⟩
          · clear hxy
            go_wp2
            go_quiet (fail)
            go_wp2
            go_ret
            exact ⟨by simp [Hne.out], hB.trans ⟨rfl, rfl, rfl, Nat.le_refl _, fun _ _ => rfl⟩⟩
          · have hn : ¬ n = n' := fun e => hxy ⟨rfl, e⟩
            clear hxy
            go_wp2
            go_quiet (fail)
            go_wp2
            go_ret
            exact ⟨by simp [Hne.out], hB.trans ⟨rfl, rfl, rfl, Nat.le_refl _, fun _ _ => rfl⟩⟩
      · obtain rfl : k = l.length := by omega
        have he : l = m := by have := Hlen.out; rw [List.take_length, this, List.take_length] at hT; exact hT
        have He := Lib.hid he
        clear he hT
        go_wp2
        go_ret
        exact ⟨by simp [He.out], hB⟩
  · have hne : l ≠ m := by rintro rfl; exact hlen rfl
    have Hne := Lib.hid hne
    clear hne
    go_enter Try.func48, Try.ntmps48
    go_wp2
    go_ret
    exact ⟨by simp [Hne.out], Below.refl _ _⟩

set_option maxHeartbeats 400000 in
theorem like_any (u v : Value) (l m : List V) (w : World) (hl : IsVals w u l) (hm : IsVals w v m) :
    Calls Try.prog 47 #[.agg #[u], .agg #[v]] w fun e w' => e = .returned (.bool (decide (l = m))) ∧ Below w.heap.size w w' := by
  obtain ⟨a, cap, rfl, hl0⟩ := hl.slice
  obtain ⟨a', cap', rfl, hm0⟩ := hm.slice
  have Hl := Lib.hid hl
  have Hm := Lib.hid hm
  clear hl hm
  go_enter Try.func47, Try.ntmps47
  go_wp2_with fail
  refine (equalV_any _ _ l m _ (Hl.out.later (by repeat (first | exact Below.refl _ _ | refine Below.setCell ?_ (by first | exact Nat.le_refl _ | (simp; done) | (simp; omega) | (simp at *; omega)) _ | refine Below.alloc ?_ (by first | exact Nat.le_refl _ | (simp; done) | (simp; omega) | (simp at *; omega)) _ | refine Below.drew ?_ | refine Below.trans ?_ (Below.mono (by assumption) (by first | exact Nat.le_refl _ | (simp; done) | (simp; omega) | (simp at *; omega)))))) (Hm.out.later (by repeat (first | exact Below.refl _ _ | refine Below.setCell ?_ (by first | exact Nat.le_refl _ | (simp; done) | (simp; omega) | (simp at *; omega)) _ | refine Below.alloc ?_ (by first | exact Nat.le_refl _ | (simp; done) | (simp; omega) | (simp at *; omega)) _ | refine Below.drew ?_ | refine Below.trans ?_ (Below.mono (by assumption) (by first | exact Nat.le_refl _ | (simp; done) | (simp; omega) | (simp at *; omega))))))).mono ?_
  rintro e w1 ⟨rfl, hb⟩
  go_wp2
  go_ret
  exact ⟨rfl, (by repeat (first | exact Below.refl _ _ | refine Below.setCell ?_ (by first | exact Nat.le_refl _ | (simp; done) | (simp; omega) | (simp at *; omega)) _ | refine Below.alloc ?_ (by first | exact Nat.le_refl _ | (simp; done) | (simp; omega) | (simp at *; omega)) _ | refine Below.drew ?_ | refine Below.trans ?_ (Below.mono (by assumption) (by first | exact Nat.le_refl _ | (simp; done) | (simp; omega) | (simp at *; omega)))))⟩

set_option maxRecDepth 100000 in
set_option maxHeartbeats 400000 in
theorem equalO_any (u v : Value) (l m : List (List V)) (w : World) (hl : IsObjs w u l) (hm : IsObjs w v m) :
    Calls Try.prog 49 #[u, v, .func (.func 47) #[] #[]] w fun e w' => e = .returned (.bool (decide (l = m))) ∧ Below w.heap.size w w' := by
  obtain ⟨a, cap, rfl, hl0⟩ := hl.slice
  obtain ⟨a', cap', rfl, hm0⟩ := hm.slice
  have Hl := Lib.hid hl
  have Hm := Lib.hid hm
  clear hl hm
  by_cases hlen : l.length = m.length
  · have Hlen := Lib.hid hlen
    have hlen2 : (m.length : Int) = l.length := by omega
    go_enter Try.func49, Try.ntmps49
    go_wp2
    clear hlen hlen2
    go_loopw [17] (fun i wr => ∃ k : Nat, k ≤ l.length ∧ i = .int .i64 k ∧ l.take k = m.take k ∧ Below w.heap.size w wr) (fun i _ => l.length - (intOf i).toNat)
    case atStart => exact ⟨0, Nat.zero_le _, rfl, rfl, Below.refl _ _⟩
    case round =>
      obtain ⟨k, hk, rfl, hT, hB⟩ := hrel
      by_cases hlt : k < l.length
      · obtain ⟨x, hx⟩ := get_some _ _ hlt
        obtain ⟨y, hy⟩ := get_some m k (by have := Hlen.out; omega)
        have hltm : k < m.length := by have := Hlen.out; omega
        obtain ⟨b, off, cap2, ux, hv, hb, hn, c1, hux⟩ := Hl.out.at hB hx
        cases hv
        obtain ⟨b', off', cap2', uy, hv', hb', hn', d1, huy⟩ := Hm.out.at hB hy
        cases hv'
        obtain ⟨ax, cx, rfl, _⟩ := hux.slice
        obtain ⟨ay, cy, rfl, _⟩ := huy.slice
        have HS := Lib.hid (take_succ_some _ _ _ hx)
        have HS2 := Lib.hid (take_succ_some _ _ _ hy)
        have Hx := Lib.hid hx
        have Hy := Lib.hid hy
        have HT := Lib.hid hT
        have Hux := Lib.hid hux
        have Huy := Lib.hid huy
        have hbo := fun o o' => (hB.alloc hB.size o).alloc (Nat.le_trans hB.size (by simp)) o'
        clear hx hy hT hux huy
        go_wp2_with fail
        refine (like_any _ _ x y _ (Hux.out.later (hbo _ _)) (Huy.out.later (hbo _ _))).mono ?_
        rintro e w1 ⟨rfl, hb1⟩
        have hB1 := (hbo _ _).trans (hb1.mono (Nat.le_trans hB.size (by simp; omega)))
        by_cases hxy : x = y
        · subst hxy
          have hd : decide (x = x) = true := by simp
          rw [hd]
          go_wp2
          go_roundw
          case rel => exact ⟨k + 1, by omega, by go_num, by rw [HS.out, HS2.out, HT.out], hB1⟩
          case measure => simp [intOf]; omega
        · have hne : l ≠ m := take_ne Hx.out Hy.out hxy
          have Hne := Lib.hid hne
          have hd : decide (x = y) = false := by simp [hxy]
          rw [hd]
          clear hne hd
          go_wp2
          go_ret
          exact ⟨by simp [Hne.out], hB1⟩
      · obtain rfl : k = l.length := by omega
        have he : l = m := by have := Hlen.out; rw [List.take_length, this, List.take_length] at hT; exact hT
        have He := Lib.hid he
        clear he hT
        go_wp2
        go_ret
        exact ⟨by simp [He.out], hB⟩
  · have hne : l ≠ m := by rintro rfl; exact hlen rfl
    have Hne := Lib.hid hne
    clear hne
    go_enter Try.func49, Try.ntmps49
    go_wp2
    go_ret
    exact ⟨by simp [Hne.out], Below.refl _ _⟩
end Go.Proofs.Ytjeaaiklbefmmaa
