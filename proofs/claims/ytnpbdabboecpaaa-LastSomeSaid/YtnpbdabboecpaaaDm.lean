/- ragpickerref.Dist, walked. -/
import Derived.Test.YtnpbdabboecpaaaDn
import Derived.Test.YtnpbdabboecpaaaMi
import Derived.Test.YtnpbdabboecpaaaGr
import Derived.Test.YtnpbdabboecpaaaCl
namespace Go.Proofs.Ytnpbdabboecpaaa
open Go.RowKit Go.Shelf

theorem fieldsAt_get {g : G} {i : Nat} {o : List V} (h : g.objs[i]? = some o) : fieldsAt g (i : Int) = o := by
  unfold fieldsAt; rw [Int.toNat_natCast, List.getD_eq_getElem?_getD, h]; rfl
theorem lt_of_some {α : Type} {l : List α} {n i : Nat} {x : α} (h : l[i]? = some x) (hl : l.length = n) : i < n := by rw [← hl]; exact (List.getElem?_eq_some_iff.1 h).1

set_option maxHeartbeats 400000 in
theorem distR_any (g : G) (hn : g.objs.length ≤ 1000) (v : Value) (w : World) (hg : IsGraph w v g) :
    Calls Try.prog 36 #[v] w fun e w' => ∃ d b, e = .returned (.slice (some ⟨b, 0, none⟩) g.objs.length g.objs.length) ∧ DistR g d ∧ Mem w.heap.size w w' [rowI 3 (.slice (some ⟨b, 0, none⟩) g.objs.length g.objs.length) d] := by
  obtain ⟨vo, vr, rfl, ho, hr⟩ := hg
  obtain ⟨ao, co, rfl, hlo⟩ := ho.slice
  obtain ⟨ar, cr, rfl, hlr⟩ := hr.slice
  have Ho := Lib.hid ho
  have Hr := Lib.hid hr
  clear ho hr
  have hM0 := (Mem.start w).alloc #[.slice ao g.objs.length co, .slice ar g.roots.length cr] 25
  go_enter Try.func36, Try.ntmps36
  go_wp2_with (at_make; refine Mem.wp_makeI elemInts rfl _ _ rfl hM0 _ _ g.objs.length rfl rfl (by go_num) (by go_num) hn ?_; intro w1 hM1 hb1)
  have hM1b : Mem w.heap.size w w1 [rowI 3 (.slice (some ⟨w.heap.size + 1, 0, none⟩) g.objs.length g.objs.length) (List.replicate g.objs.length 0), ebox w.heap.size #[.slice ao g.objs.length co, .slice ar g.roots.length cr] 25] := by
    simpa using hM1
  have Hz := Lib.hid (D0.start g)
  clear hM1 hb1 hM0
  go_wp2
  go_loopw [4] (fun i wr => ∃ (k : Nat) (d : List Int), k ≤ g.objs.length ∧ i = .int .i64 k ∧ D0 g k d ∧ Mem w.heap.size w wr [rowI 3 (.slice (some ⟨w.heap.size + 1, 0, none⟩) g.objs.length g.objs.length) d, ebox w.heap.size #[.slice ao g.objs.length co, .slice ar g.roots.length cr] 25])
    (fun i _ => g.objs.length - (intOf i).toNat)
  case atStart => exact ⟨0, _, Nat.zero_le _, rfl, Hz.out, hM1b⟩
  case round =>
    obtain ⟨k, d, hk, rfl, hD, hM⟩ := hrel
    by_cases hlt : k < g.objs.length
    · obtain ⟨x, hx⟩ := get_some d k (by rw [hD.len]; exact hlt)
      obtain ⟨q1, q2⟩ := hM.intAt 0 rfl hx
      have hM3 := hM.setI 0 rfl hD.len k (-1)
      obtain ⟨p0, p1⟩ := hM3.cells2 1 rfl
      have hz : (d.set k (-1))[k]? = some (-1) := by rw [List.getElem?_set_self (by rw [hD.len]; exact hlt)]
      have HD := Lib.hid hD
      have Hz2 := Lib.hid hz
      have HM3 := Lib.hid hM3
      clear hx hD hz hM3 hM
      go_wp2_with fail
      refine (refers_any _ g.roots k _ (Hr.out.later HM3.out.below)).mono ?_
      rintro e w4 ⟨rfl, hb4⟩
      have hM4 := HM3.out.call hb4
      rcases hr : refersB g.roots k with _ | _
      · have HM4 := Lib.hid hM4
        have Hrr := Lib.hid hr
        clear hM4 hr
        go_wp2
        go_roundw
        case rel => exact ⟨k + 1, _, by omega, by go_num, HD.out.no hlt Hrr.out, HM4.out⟩
        case measure => simp [intOf]; omega
      · obtain ⟨q3, q4⟩ := hM4.intAt 0 rfl Hz2.out
        have HM4 := Lib.hid (hM4.setI 0 rfl (by simp [HD.out.len]) k 0)
        have Hrr := Lib.hid hr
        clear hM4 hr
        go_wp2
        go_roundw
        case rel => exact ⟨k + 1, _, by omega, by go_num, HD.out.yes hlt Hrr.out, HM4.out⟩
        case measure => simp [intOf]; omega
    · obtain rfl : k = g.objs.length := by omega
      have HD := Lib.hid hD.all
      have HM := Lib.hid hM
      clear hD hM
      go_wp2
      go_loopw [5] (fun i wr => ∃ (t : Nat) (d : List Int), t ≤ g.objs.length ∧ i = .int .i64 t ∧ DInv g t 0 0 d ∧ Mem w.heap.size w wr [rowI 3 (.slice (some ⟨w.heap.size + 1, 0, none⟩) g.objs.length g.objs.length) d, ebox w.heap.size #[.slice ao g.objs.length co, .slice ar g.roots.length cr] 25])
        (fun i _ => g.objs.length - (intOf i).toNat)
      case atStart => exact ⟨0, _, Nat.zero_le _, rfl, HD.out, HM.out⟩
      case round =>
        clear HD HM
        obtain ⟨t, d, ht, rfl, hD, hM⟩ := hrel
        by_cases htl : t < g.objs.length
        · have HD := Lib.hid hD
          have HM := Lib.hid hM
          clear hD hM
          go_wp2
          go_loopw [6] (fun i wr => ∃ (k : Nat) (d : List Int), k ≤ g.objs.length ∧ i = .int .i64 k ∧ DInv g t k 0 d ∧ Mem w.heap.size w wr [rowI 3 (.slice (some ⟨w.heap.size + 1, 0, none⟩) g.objs.length g.objs.length) d, ebox w.heap.size #[.slice ao g.objs.length co, .slice ar g.roots.length cr] 25])
            (fun i _ => g.objs.length - (intOf i).toNat)
          case atStart => exact ⟨0, _, Nat.zero_le _, rfl, HD.out, HM.out⟩
          case round =>
            clear HD HM
            obtain ⟨k, d, hk, rfl, hD, hM⟩ := hrel
            by_cases hkl : k < g.objs.length
            · have HD := Lib.hid hD
              have HM := Lib.hid hM
              clear hD hM
              go_wp2
              go_loopw [7] (fun i wr => ∃ (j : Nat) (d : List Int), j ≤ g.objs.length ∧ i = .int .i64 j ∧ DInv g t k j d ∧ Mem w.heap.size w wr [rowI 3 (.slice (some ⟨w.heap.size + 1, 0, none⟩) g.objs.length g.objs.length) d, ebox w.heap.size #[.slice ao g.objs.length co, .slice ar g.roots.length cr] 25])
                (fun i _ => g.objs.length - (intOf i).toNat)
              case atStart => exact ⟨0, _, Nat.zero_le _, rfl, HD.out, HM.out⟩
              case round =>
                clear HD HM
                obtain ⟨j, d, hj, rfl, hD, hM⟩ := hrel
                obtain ⟨x, hx⟩ := get_some d k (by rw [hD.len]; exact hkl)
                obtain ⟨q1, q2⟩ := hM.intAt 0 rfl hx
                have hxa := dAt_some hx
                have HD := Lib.hid hD
                have HM := Lib.hid hM
                have Hxa := Lib.hid hxa
                clear hx hD hM hxa
                rcases hxt : (x == (t : Int)) with _ | _
                · have hne : x ≠ (t : Int) := by simpa using hxt
                  have HN := Lib.hid (HD.out.next (Or.inl (by rw [Hxa.out]; exact hne)))
                  clear hne
                  go_wp2
                  go_roundw
                  case rel => exact ⟨k + 1, _, by omega, by go_num, HN.out, HM.out⟩
                  case measure => simp [intOf]; omega
                · have hxe : x = (t : Int) := by simpa using hxt
                  have Hxe := Lib.hid (hxe)
                  clear hxe
                  by_cases hjl : j < g.objs.length
                  · obtain ⟨y, hy⟩ := get_some d j (by rw [HD.out.len]; exact hjl)
                    obtain ⟨q3, q4⟩ := HM.out.intAt 0 rfl hy
                    have hya := dAt_some hy
                    rcases hy0 : decide (y < 0) with _ | _
                    · have HN := Lib.hid (HD.out.skip (Or.inl (by rw [hya]; simpa using hy0)))
                      clear hy hya
                      go_wp2
                      go_roundw
                      case rel => exact ⟨j + 1, _, by omega, by go_num, HN.out, HM.out⟩
                      case measure => simp [intOf]; omega
                    · obtain ⟨ob, hob⟩ := get_some _ _ hkl
                      obtain ⟨b, off, cap2, uo, hv, hb, hn2, c1, huo⟩ := Ho.out.at HM.out.below hob
                      cases hv
                      obtain ⟨au, cu, rfl, hlu⟩ := huo.slice
                      obtain ⟨p0, p1⟩ := HM.out.cells2 1 rfl
                      have hya2 : dAt d j < 0 := by rw [hya]; simpa using hy0
                      have Hya := Lib.hid hya2
                      have Hy := Lib.hid hy
                      have Huo := Lib.hid huo
                      have Hob := Lib.hid (fieldsAt_get hob)
                      clear hy hya hob huo hya2
                      go_wp2_with fail
                      refine (refers_any _ ob j _ (Huo.out.later HM.out.below)).mono ?_
                      rintro e w4 ⟨rfl, hb4⟩
                      have hM4 := HM.out.call hb4
                      rcases hr : refersB ob j with _ | _
                      · have HN := Lib.hid (HD.out.skip (Or.inr (by rw [Hob.out]; exact hr)))
                        have HM4 := Lib.hid hM4
                        clear hM4 hr
                        go_wp2
                        go_roundw
                        case rel => exact ⟨j + 1, _, by omega, by go_num, HN.out, HM4.out⟩
                        case measure => simp [intOf]; omega
                      · have HN := Lib.hid (HD.out.hit hjl (by rw [Hxa.out]; exact Hxe.out) Hya.out (by rw [Hob.out]; exact hr))
                        obtain ⟨q5, q6⟩ := hM4.intAt 0 rfl Hy.out
                        have HM4 := Lib.hid (hM4.setI 0 rfl HD.out.len j ((t : Int) + 1))
                        clear hM4 hr
                        go_wp2
                        go_roundw
                        case rel => exact ⟨j + 1, _, by omega, by go_num, HN.out, HM4.out⟩
                        case measure => simp [intOf]; omega
                  · obtain rfl : j = g.objs.length := by omega
                    have HN := Lib.hid (HD.out.next (Or.inr rfl))
                    go_wp2
                    go_roundw
                    case rel => exact ⟨k + 1, _, by omega, by go_num, HN.out, HM.out⟩
                    case measure => simp [intOf]; omega
            · obtain rfl : k = g.objs.length := by omega
              have HN := Lib.hid hD.turn
              have HM := Lib.hid hM
              clear hD hM
              go_wp2
              go_roundw
              case rel => exact ⟨t + 1, _, by omega, by go_num, HN.out, HM.out⟩
              case measure => simp [intOf]; omega
        · obtain rfl : t = g.objs.length := by omega
          have HN := Lib.hid hD.fin
          have HM := Lib.hid (show Mem w.heap.size w wr [rowI 3 (.slice (some ⟨w.heap.size + 1, 0, none⟩) g.objs.length g.objs.length) d] from hM.pick0 [0] (by decide) rfl)
          clear hD hM
          go_wp2
          go_ret
          exact ⟨d, _, rfl, HN.out, HM.out⟩
end Go.Proofs.Ytnpbdabboecpaaa
