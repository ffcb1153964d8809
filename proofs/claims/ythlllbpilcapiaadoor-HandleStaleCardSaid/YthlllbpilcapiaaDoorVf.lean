/- Handles: the slot of a handle, walked. -/
import Derived.Test.YthlllbpilcapiaaDoorTu
import Derived.Test.YthlllbpilcapiaaDoorMi
import Derived.Test.YthlllbpilcapiaaDoorVd
import Derived.Deep.DeepCutAuto
import Derived.Deep.RegionHeld3
namespace Go.Proofs.YthlllbpilcapiaaDoor
open Go.RowKit

def encS (s : Slot) : List Value := [.int .i64 s.1, .int .i64 (s.2.1 : Int), .bool s.2.2]
theorem encS_len (s : Slot) : (encS s).length = 3 := rfl
def ownT (bt g n cap : Nat) (t : List Slot) : List Ent := [ebox bt #[.slice (some ⟨g, 0, none⟩) n cap] 37, rowT 49 3 encS (.slice (some ⟨g, 0, none⟩) n cap) t]
def FindSays (g : Nat) (r : Option Nat) (e : Ending) : Prop :=
  match r with
  | none => e = .returned (.tuple #[.pointer none, .iface 50 (.int .i64 2)])
  | some i => e = .returned (.tuple #[.pointer (some ⟨g, i * 3, none⟩), .nilIface])
set_option maxRecDepth 100000 in
set_option maxHeartbeats 1000000 in
theorem find_any (B : Nat) (w0 w : World) (bt g n cap : Nat) (t : List Slot) (h : Int) (L' : List Ent) (hM : Mem B w0 w (ownT bt g n cap t ++ L')) (hn : t.length = n) (h64 : i64ok h) :
    Calls Tryd.prog 10 #[.pointer (some ⟨bt, 0, none⟩), .int .i64 h] w fun e w' => FindSays g (findH t h) e ∧ Mem B w0 w' (ownT bt g n cap t ++ L') := by
  have c0 : w.cell? ⟨bt, 0, none⟩ = some (.slice (some ⟨g, 0, none⟩) n cap) := by have := hM.cell 0 rfl 0; simpa using this
  have zt : bt < w.heap.size := (hM.box 0 rfl).2.1
  have zg : g < w.heap.size := ((hM.row 1 rfl).lt g rfl).2
  have HM := Lib.hid hM
  by_cases hneg : h < 0
  · have q1 : decide (h < 0) = true := decide_eq_true hneg
    have hf : findH t h = none := by unfold findH; rw [if_pos (.inl hneg)]
    have HF := Lib.hid hf
    clear hM hf
    go_enter Tryd.func10, Tryd.ntmps10
    go_wp2
    go_ret2
    rw [HF.out]
    exact ⟨rfl, HM.out⟩
  · have q1 : decide (h < 0) = false := decide_eq_false hneg
    obtain ⟨i, hi⟩ : ∃ i : Nat, h % 32 = (i : Int) := ⟨(h % 32).toNat, by omega⟩
    obtain ⟨v, hv⟩ : ∃ v : Nat, h / 32 = (v : Int) := ⟨(h / 32).toNat, by omega⟩
    have ht : h.tdiv 32 = (v : Int) := by rw [Int.tdiv_eq_ediv_of_nonneg (by omega)]; exact hv
    have hw : wrap64 (h.tdiv 32) = (v : Int) := by rw [ht]; simp only [wrap64]; unfold i64ok at h64; omega
    have HW := Lib.hid hw
    clear ht hw
    by_cases hlt : i < n
    · obtain ⟨s, hs⟩ := get_some t i (by omega)
      have hcs := hM.tupAt 1 (i := i) (x := s) rfl encS_len hs
      have d1 := (hcs 1 _ rfl).1
      have d2 := (hcs 2 _ rfl).1
      have e1 : decide ((n : Int) ≤ (i : Int)) = false := decide_eq_false (by omega)
      have e2 : decide (n ≤ i) = false := decide_eq_false (by omega)
      have i0 : (0 : Int) ≤ (i : Int) := by omega
      have i1 : (i : Int) < (n : Int) := by omega
      have hf : findH t h = if s.2.2 = true ∧ (s.2.1 : Int) = (v : Int) then some i else none := by
        unfold findH
        rw [if_neg (by omega), hi, Int.toNat_natCast, getD_slot hs, hv]
      have HF := Lib.hid hf
      cases hb : s.2.2 with
      | false =>
        rw [hb] at d2
        have hf2 : findH t h = none := by rw [HF.out, if_neg (by rw [hb]; simp)]
        have HF2 := Lib.hid hf2
        clear hM hf hcs hs hb HF hf2 hneg
        go_enter Tryd.func10, Tryd.ntmps10
        go_wp2
        go_ret2
        rw [HF2.out]
        exact ⟨rfl, HM.out⟩
      | true =>
        rw [hb] at d2
        by_cases hver : (s.2.1 : Int) = (v : Int)
        · have hf2 : findH t h = some i := by rw [HF.out, if_pos ⟨hb, hver⟩]
          have HF2 := Lib.hid hf2
          have hver2 : s.2.1 = v := by omega
          rw [hver2] at d1
          have e3 : ((v : Int) == wrap64 (h.tdiv 32)) = true := by rw [HW.out]; exact beq_self_eq_true _
          clear hM hf hcs hs hb HF hf2 hneg hver hver2
          go_enter Tryd.func10, Tryd.ntmps10
          go_wp2
          go_ret2
          rw [HF2.out]
          exact ⟨rfl, HM.out⟩
        · have hf2 : findH t h = none := by rw [HF.out, if_neg (by intro h9; exact hver h9.2)]
          have HF2 := Lib.hid hf2
          have e3 : ((s.2.1 : Int) == wrap64 (h.tdiv 32)) = false := by rw [HW.out]; simpa using hver
          clear hM hf hcs hs hb HF hf2 hneg hver
          go_enter Tryd.func10, Tryd.ntmps10
          go_wp2
          go_ret2
          rw [HF2.out]
          exact ⟨rfl, HM.out⟩
    · have hf : findH t h = none := by unfold findH; rw [if_pos (.inr (by omega))]
      have HF := Lib.hid hf
      have e1 : decide ((n : Int) ≤ (i : Int)) = true := decide_eq_true (by omega)
      have e2 : decide (n ≤ i) = true := decide_eq_true (by omega)
      clear hM hf hneg
      go_enter Tryd.func10, Tryd.ntmps10
      go_wp2
      go_ret2
      rw [HF.out]
      exact ⟨rfl, HM.out⟩
end Go.Proofs.YthlllbpilcapiaaDoor
