/- graph.Renumber, walked. -/
import Derived.Test.YtdmgpiimacnapaaCm
import Derived.Test.YtdmgpiimacnapaaMp
import Derived.Laws.EntriesVeiled
namespace Go.Proofs.Ytdmgpiimacnapaa
open Go.RowKit Go.Shelf

def turnV (p : Int → Int) (v : V) : V := if v.ref then ⟨true, p v.n⟩ else v

set_option maxRecDepth 100000 in
set_option maxHeartbeats 1000000 in
theorem turn_any (w : World) (vs : Value) (l : List V) (Bm b n : Nat) (p : Int → Int) (hl : IsVals w vs l) (hB : w.cell? ⟨Bm, 0, none⟩ = some (.map (some b))) (hB2 : Bm < w.heap.size) (hm : (emap b n p).ok 0 w) (hlen : l.length ≤ 1000) :
    Calls Try.prog 72 #[vs, .pointer (some ⟨Bm, 0, none⟩)] w fun e w' => ∃ v', e = .returned v' ∧ Mem w.heap.size w w' [rowV 67 v' (l.map (turnV p))] := by
  obtain ⟨a, cap, rfl, _⟩ := hl.slice
  have Hl := Lib.hid hl
  have Hm := Lib.hid hm
  have HB := Lib.hid hB
  clear hl hm hB
  have hM0 := (Mem.start w).nilV 67
  go_enter Try.func72, Try.ntmps72
  go_wp2
  go_loopw [4, 9] (fun v i wr => ∃ k : Nat, k ≤ l.length ∧ i = .int .i64 k ∧ Mem w.heap.size w wr [rowV 67 v ((l.take k).map (turnV p))]) (fun _ i _ => l.length - (intOf i).toNat)
  case atStart => exact ⟨0, Nat.zero_le _, rfl, hM0⟩
  case round =>
    obtain ⟨k, hk, rfl, hM⟩ := hrel
    by_cases hlt : k < l.length
    · obtain ⟨y, hx⟩ := get_some _ _ hlt
      obtain ⟨bl, off, cap2, hv, hb, hn, c1, c2, hi⟩ := Hl.out.at hM.below hx
      cases hv
      have HS := Lib.hid (take_succ_some _ _ _ hx)
      have htl : ((l.take k).map (turnV p)).length ≤ 1000000 := by rw [List.length_map]; have := take_len_le l k; omega
      have r0 : wr.cell? ⟨Bm, 0, none⟩ = some (.map (some b)) := (hM.below.cell (p := ⟨_, _, none⟩) hB2).trans HB.out
      have hB3 : Bm < wr.heap.size := Nat.lt_of_lt_of_le hB2 hM.below.size
      have HM := Lib.hid hM
      have Htl := Lib.hid htl
      obtain ⟨r, m⟩ := y
      have hlook : ∀ o, (Instr.lookup 114 (.map (some b)) (.int .i64 m) false).run Try.prog (wr.alloc o) = .ok (.int .i64 (p m)) (wr.alloc o) := by
        intro o
        refine look_ok (Ent.ok_same Hm.out ?_ ?_) hi
        · simp; have := HM.out.below.size; omega
        · intro b' e
          cases e
          have hbw := (Hm.out.1 b rfl).2
          exact ((hM.alloc_ o).below.block b hbw)
      clear hx hM htl hi
      cases r
      · go_wp2_with (at_builtin; refine Mem.wp_appV elemVals rfl (.tmp 20) (.tmp 22) rfl (HM.out.alloc_ _) 0 rfl rfl _ ⟨false, m⟩ _ _ rfl (by simp) Htl.out ?_; intro ad n1 cp w1 hn1 hM3 hs1 hk1 ha1)
        go_roundw
        case rel => exact ⟨k + 1, by omega, by go_num, hM3.cast (by rw [HS.out]; simp [turnV])⟩
        case measure => simp [intOf]; omega
      · go_wp2_with (at_builtin; refine Mem.wp_appV elemVals rfl (.tmp 20) (.tmp 22) rfl (HM.out.alloc_ _) 0 rfl rfl _ ⟨true, p m⟩ _ _ rfl (by simp) Htl.out ?_; intro ad n1 cp w1 hn1 hM3 hs1 hk1 ha1)
        go_roundw
        case rel => exact ⟨k + 1, by omega, by go_num, hM3.cast (by rw [HS.out]; simp [turnV])⟩
        case measure => simp [intOf]; omega
    · obtain rfl : k = l.length := by omega
      rw [List.take_length] at hM
      go_wp2
      go_ret
      exact ⟨_, rfl, hM⟩
end Go.Proofs.Ytdmgpiimacnapaa
