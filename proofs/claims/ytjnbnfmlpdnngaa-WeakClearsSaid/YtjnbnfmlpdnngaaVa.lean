/- ragpickerref.Values, Graphs, walked. -/
import Derived.Test.YtjnbnfmlpdnngaaBase1
import Derived.BigQuiet
import Derived.Deep.QuietTactic
namespace Go.Proofs.Ytjnbnfmlpdnngaa
open Go.RowKit Go.Shelf

set_option maxRecDepth 100000 in
set_option maxHeartbeats 400000 in
theorem values_eq (u v : Value) (l m : List V) (w : World) (hl : IsVals w u l) (hm : IsVals w v m) :
    Calls Try.prog 49 #[u, v] w fun e w' => e = .returned (.bool (decide (l = m))) ∧ ∃ q, w' = w.drewN q := by
  obtain ⟨a, cap, rfl, hl0⟩ := hl.slice
  obtain ⟨a', cap', rfl, hm0⟩ := hm.slice
  have Hl := Lib.hid hl
  have Hm := Lib.hid hm
  clear hl hm
  by_cases hlen : l.length = m.length
  · have Hlen := Lib.hid hlen
    have hlen2 : (m.length : Int) = l.length := by omega
    go_enter Try.func49, Try.ntmps49
    go_wp2
    clear hlen hlen2
    go_loopw [5] (fun i wr => ∃ k : Nat, k ≤ l.length ∧ i = .int .i64 k ∧ l.take k = m.take k ∧ ∃ q, wr = w.drewN q) (fun i _ => l.length - (intOf i).toNat)
    case atStart => exact ⟨0, Nat.zero_le _, rfl, rfl, 0, rfl⟩
    case round =>
      obtain ⟨k, hk, rfl, hT, q, rfl⟩ := hrel
      by_cases hlt : k < l.length
      · obtain ⟨x, hx⟩ := get_some _ _ hlt
        obtain ⟨y, hy⟩ := get_some m k (by have := Hlen.out; omega)
        have hltm : k < m.length := by have := Hlen.out; omega
        obtain ⟨b, off, cap2, hv, hb, hn, c1, c2, _⟩ := Hl.out.at (Below.refl _ _) hx
        cases hv
        obtain ⟨b', off', cap2', hv', hb', hn', d1, d2, _⟩ := Hm.out.at (Below.refl _ _) hy
        cases hv'
        have HS := Lib.hid (take_succ_some _ _ _ hx)
        have HS2 := Lib.hid (take_succ_some _ _ _ hy)
        have Hx := Lib.hid hx
        have Hy := Lib.hid hy
        have HT := Lib.hid hT
        clear hx hy hT
        obtain ⟨r, n⟩ := x
        obtain ⟨r', n'⟩ := y
        by_cases hxy : r = r' ∧ n = n'
        · obtain ⟨rfl, rfl⟩ := hxy
          go_wp2
          go_quiet (fail)
          go_wp2
          go_roundw
          case rel => exact ⟨k + 1, by omega, by go_num, by rw [HS.out, HS2.out, HT.out], _, rfl⟩
          case measure => simp [intOf]; omega
        · have hne : l ≠ m := take_ne Hx.out Hy.out (by intro e; cases e; exact hxy ⟨rfl, rfl⟩)
          have Hne := Lib.hid hne
          clear hne
          cases r <;> cases r'
          · have hn : ¬ n = n' := fun e => hxy ⟨rfl, e⟩
            clear hxy
            go_wp2
            go_quiet (fail)
            go_wp2
            go_ret
            exact ⟨by simp [Hne.out], _, World.drewN_drewN _ _ _⟩
          · clear hxy
            go_wp2
            go_quiet (fail)
            go_wp2
            go_ret
            exact ⟨by simp [Hne.out], _, World.drewN_drewN _ _ _⟩
          · clear hxy
            go_wp2
            go_quiet (fail)
            go_wp2
            go_ret
            exact ⟨by simp [Hne.out], _, World.drewN_drewN _ _ _⟩
          · have hn : ¬ n = n' := fun e => hxy ⟨rfl, e⟩
            clear hxy
            go_wp2
            go_quiet (fail)
            go_wp2
            go_ret
            exact ⟨by simp [Hne.out], _, World.drewN_drewN _ _ _⟩
      · obtain rfl : k = l.length := by omega
        have he : l = m := by have := Hlen.out; rw [List.take_length, this, List.take_length] at hT; exact hT
        have He := Lib.hid he
        clear he hT
        go_wp2
        go_ret
        exact ⟨by simp [He.out], _, rfl⟩
  · have hne : l ≠ m := by rintro rfl; exact hlen rfl
    have Hne := Lib.hid hne
    clear hne
    go_enter Try.func49, Try.ntmps49
    go_wp2
    go_ret
    exact ⟨by simp [Hne.out], 0, rfl⟩

theorem graphs_parts {g h : G} (h1 : g.objs.length = h.objs.length) (h2 : ∀ (k : Nat) (x y : List V), g.objs[k]? = some x → h.objs[k]? = some y → x = y) (h3 : g.roots = h.roots) : g = h := by
  obtain ⟨o, r⟩ := g
  obtain ⟨o', r'⟩ := h
  simp only at h1 h2 h3
  subst h3
  congr 1
  apply List.ext_getElem h1
  intro i hi hi'
  exact h2 i _ _ (List.getElem?_eq_getElem hi) (List.getElem?_eq_getElem hi')

set_option maxRecDepth 100000 in
set_option maxHeartbeats 400000 in
theorem graphs_same (u v : Value) (g : G) (w : World) (hu : IsGraph w u g) (hv : IsGraph w v g) :
    Calls Try.prog 28 #[u, v] w fun e w' => e = .returned (.bool true) ∧ Below w.heap.size w w' := by
  obtain ⟨uo, ur, rfl, huo, hur⟩ := hu
  obtain ⟨vo, vr, rfl, hvo, hvr⟩ := hv
  obtain ⟨a1, c1, rfl, _⟩ := huo.slice
  obtain ⟨a2, c2, rfl, _⟩ := hur.slice
  obtain ⟨a3, c3, rfl, _⟩ := hvo.slice
  obtain ⟨a4, c4, rfl, _⟩ := hvr.slice
  have Huo := Lib.hid huo
  have Hur := Lib.hid hur
  have Hvo := Lib.hid hvo
  have Hvr := Lib.hid hvr
  clear huo hur hvo hvr
  have hM0 := ((Mem.start w).alloc #[.slice a1 g.objs.length c1, .slice a2 g.roots.length c2] 25).allocAt (w.heap.size + 1) (by simp) #[.slice a3 g.objs.length c3, .slice a4 g.roots.length c4] 25
  go_enter Try.func28, Try.ntmps28
  go_wp2_with fail
  refine (values_eq _ _ g.roots g.roots _ (Hur.out.later hM0.below) (Hvr.out.later hM0.below)).mono ?_
  rintro e w1 ⟨rfl, q1, rfl⟩
  have hd : decide (g.roots = g.roots) = true := by simp
  rw [hd]
  clear hd
  have hM1 := hM0.drewN q1
  go_wp2
  go_loopw [5] (fun i wr => ∃ k : Nat, k ≤ g.objs.length ∧ i = .int .i64 k ∧ Mem w.heap.size w wr [ebox (w.heap.size + 1) #[.slice a3 g.objs.length c3, .slice a4 g.roots.length c4] 25, ebox w.heap.size #[.slice a1 g.objs.length c1, .slice a2 g.roots.length c2] 25]) (fun i _ => g.objs.length - (intOf i).toNat)
  case atStart => exact ⟨0, Nat.zero_le _, rfl, hM1⟩
  case round =>
    obtain ⟨k, hk, rfl, hM⟩ := hrel
    have p0 : wr.cell? ⟨w.heap.size + 1, 0, none⟩ = some (.slice a3 g.objs.length c3) := by have := hM.cell 0 rfl 0; simpa using this
    have p1 : wr.cell? ⟨w.heap.size, 0, none⟩ = some (.slice a1 g.objs.length c1) := by have := hM.cell 1 rfl 0; simpa using this
    by_cases hlt : k < g.objs.length
    · obtain ⟨x, hx⟩ := get_some _ _ hlt
      obtain ⟨b, off, cap2, ux, hv, hb, hn, d1, hux⟩ := Huo.out.at hM.below hx
      cases hv
      obtain ⟨b', off', cap2', uy, hv', hb', hn', d2, huy⟩ := Hvo.out.at hM.below hx
      cases hv'
      obtain ⟨ax, cx, rfl, _⟩ := hux.slice
      obtain ⟨ay, cy, rfl, _⟩ := huy.slice
      have Hux := Lib.hid (hux.later hM.below)
      have Huy := Lib.hid (huy.later hM.below)
      have HM := Lib.hid hM
      have htrue : ∀ n, Calls Try.prog 49 #[.slice ax x.length cx, .slice ay x.length cy] (wr.drewN n) fun e w'' => e = .returned (.bool true) ∧ ∃ m, w'' = (wr.drewN n).drewN m := by
        intro n
        have := values_eq _ _ x x (wr.drewN n) (Hux.out.later ⟨rfl, rfl, rfl, Nat.le_refl _, fun _ _ => rfl⟩) (Huy.out.later ⟨rfl, rfl, rfl, Nat.le_refl _, fun _ _ => rfl⟩)
        rwa [show decide (x = x) = true by simp] at this
      have Ht := Lib.hid htrue
      clear hx hux huy hM htrue
      go_wp2
      go_quiet (refine Calls.quiet_of (Ht.out _))
      go_wp2
      go_roundw
      case rel => exact ⟨k + 1, by omega, by go_num, HM.out.drewN _⟩
      case measure => simp [intOf]; omega
    · obtain rfl : k = g.objs.length := by omega
      go_wp2
      go_ret
      exact ⟨rfl, hM.below⟩
end Go.Proofs.Ytjnbnfmlpdnngaa
