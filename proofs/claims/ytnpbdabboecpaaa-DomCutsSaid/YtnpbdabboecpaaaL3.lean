/- cut's closure, walked. -/
import Derived.Test.YtnpbdabboecpaaaL0
import Derived.Test.YtnpbdabboecpaaaMi
import Derived.Test.YtnpbdabboecpaaaG1
import Derived.Laws.EntriesVeiled
namespace Go.Proofs.Ytnpbdabboecpaaa
open Go.RowKit Go.Shelf

set_option maxRecDepth 100000 in
set_option maxHeartbeats 1000000 in
theorem cut1_any (w : World) (vs : Value) (l : List V) (Bm : Nat) (v : Int) (hl : IsVals w vs l) (hB : w.cell? ⟨Bm, 0, none⟩ = some (.int .i64 v)) (hB2 : Bm < w.heap.size) (hlen : l.length ≤ 1000) :
    Calls Try.prog 35 #[vs, .pointer (some ⟨Bm, 0, none⟩)] w fun e w' => ∃ v', e = .returned v' ∧ Mem w.heap.size w w' [rowV 60 v' (l.map (cutV v))] := by
  obtain ⟨a, cap, rfl, _⟩ := hl.slice
  have Hl := Lib.hid hl
  have HB := Lib.hid hB
  clear hl hB
  have hM0 := (Mem.start w).nilV 60
  go_enter Try.func35, Try.ntmps35
  go_wp2
  go_loopw [4, 9] (fun u i wr => ∃ k : Nat, k ≤ l.length ∧ i = .int .i64 k ∧ Mem w.heap.size w wr [rowV 60 u ((l.take k).map (cutV v))]) (fun _ i _ => l.length - (intOf i).toNat)
  case atStart => exact ⟨0, Nat.zero_le _, rfl, hM0⟩
  case round =>
    obtain ⟨k, hk, rfl, hM⟩ := hrel
    by_cases hlt : k < l.length
    · obtain ⟨y, hx⟩ := get_some _ _ hlt
      obtain ⟨bl, off, cap2, hv, hb, hn, c1, c2, hi⟩ := Hl.out.at hM.below hx
      cases hv
      have HS := Lib.hid (take_succ_some _ _ _ hx)
      have htl : ((l.take k).map (cutV v)).length ≤ 1000000 := by rw [List.length_map]; have := take_len_le l k; omega
      have r0 : wr.cell? ⟨Bm, 0, none⟩ = some (.int .i64 v) := (hM.below.cell (p := ⟨_, _, none⟩) hB2).trans HB.out
      have hB3 : Bm < wr.heap.size := Nat.lt_of_lt_of_le hB2 hM.below.size
      have HM := Lib.hid hM
      have Htl := Lib.hid htl
      obtain ⟨r, m⟩ := y
      clear hx hM htl hi
      cases r
      · go_wp2_with (at_builtin; refine Mem.wp_appV elemVals rfl (.tmp 22) (.tmp 24) rfl (HM.out.alloc_ _) 0 rfl rfl _ ⟨false, m⟩ _ _ rfl (by simp) Htl.out ?_; intro ad n1 cp w1 hn1 hM3 hs1 hk1 ha1)
        go_roundw
        case rel => exact ⟨k + 1, by omega, by go_num, hM3.cast (by rw [HS.out]; simp [cutV])⟩
        case measure => simp [intOf]; omega
      · by_cases he : m = v
        · subst he
          go_wp2_with (at_builtin; refine Mem.wp_appV elemVals rfl (.tmp 22) (.tmp 24) rfl (HM.out.alloc_ _) 0 rfl rfl _ ⟨false, 0⟩ _ _ rfl (by simp) Htl.out ?_; intro ad n1 cp w1 hn1 hM3 hs1 hk1 ha1)
          go_roundw
          case rel => exact ⟨k + 1, by omega, by go_num, hM3.cast (by rw [HS.out]; simp [cutV])⟩
          case measure => simp [intOf]; omega
        · have he2 := Lib.hid he
          go_wp2_with (at_builtin; refine Mem.wp_appV elemVals rfl (.tmp 22) (.tmp 24) rfl (HM.out.alloc_ _) 0 rfl rfl _ ⟨true, m⟩ _ _ rfl (by simp) Htl.out ?_; intro ad n1 cp w1 hn1 hM3 hs1 hk1 ha1)
          go_roundw
          case rel => exact ⟨k + 1, by omega, by go_num, hM3.cast (by rw [HS.out]; simp [cutV, he2.out])⟩
          case measure => simp [intOf]; omega
    · obtain rfl : k = l.length := by omega
      rw [List.take_length] at hM
      go_wp2
      go_ret
      exact ⟨_, rfl, hM⟩
end Go.Proofs.Ytnpbdabboecpaaa
