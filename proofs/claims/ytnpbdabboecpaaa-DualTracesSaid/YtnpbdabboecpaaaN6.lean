/- slices.Contains of values; comps.Round, walked. -/
import Derived.Test.YtnpbdabboecpaaaN5
import Derived.Test.YtnpbdabboecpaaaGc
namespace Go.Proofs.Ytnpbdabboecpaaa
open Go.RowKit Go.Shelf Tarj

def IdxSays (l : List V) (y : V) (e : Ending) : Prop := ∃ k : Int, e = .returned (.int .i64 k) ∧ -1 ≤ k ∧ (0 ≤ k ↔ y ∈ l)
set_option maxRecDepth 100000 in
set_option maxHeartbeats 1000000 in
theorem indexV_any (w : World) (v : Value) (l : List V) (y : V) (hl : IsVals w v l) :
    Calls Try.prog 57 #[v, .agg #[.bool y.ref, .int .i64 y.n]] w fun e w' => IdxSays l y e ∧ Below w.heap.size w w' := by
  obtain ⟨a, cap, rfl, hc⟩ := hl.slice
  have Hl := Lib.hid hl
  clear hl
  have hM0 := (Mem.start w).alloc #[.bool y.ref, .int .i64 y.n] 60
  have hB := Lib.hid hM0.below
  obtain ⟨r, n⟩ := y
  go_enter Try.func57, Try.ntmps57
  go_wp2
  go_loopw [5, 8] (fun _ i wr => ∃ k : Nat, k ≤ l.length ∧ i = .int .i64 k ∧ Hid ((⟨r, n⟩ : V) ∉ l.take k) ∧ Mem w.heap.size w wr [ebox w.heap.size #[.bool r, .int .i64 n] 60]) (fun _ i _ => l.length - (intOf i).toNat)
  case atStart => exact ⟨0, Nat.zero_le _, rfl, Lib.hid (by simp), hM0⟩
  case round =>
    clear hB
    obtain ⟨k, hk, rfl, hno, hM⟩ := hrel
    by_cases hlt : k < l.length
    · obtain ⟨x, hx⟩ := get_some _ _ hlt
      obtain ⟨bl, off, cap2, hv, hb, hn, c1, c2, hi⟩ := Hl.out.at hM.below hx
      cases hv
      have p0 : wr.cell? ⟨w.heap.size, 0, none⟩ = some (.bool r) := by have := hM.cell 0 rfl 0; simpa using this
      have p1 : wr.cell? ⟨w.heap.size, 1, none⟩ = some (.int .i64 n) := by have := hM.cell 0 rfl 1; simpa using this
      have hxm := Lib.hid (List.mem_of_getElem? hx)
      have HS := Lib.hid (take_succ_some _ _ _ hx)
      have HMw := Lib.hid hM
      clear hx hM0 hM
      obtain ⟨rx, nx⟩ := x
      by_cases he : r = rx ∧ n = nx
      · obtain ⟨rfl, rfl⟩ := he
        go_wp2
        go_quiet (fail)
        go_wp2
        go_ret
        exact ⟨⟨k, rfl, by omega, fun _ => hxm.out, fun _ => by omega⟩, HMw.out.below.trans ⟨rfl, rfl, rfl, Nat.le_refl _, fun _ _ => rfl⟩⟩
      · have Hn : Hid ((⟨r, n⟩ : V) ∉ l.take (k + 1)) := Lib.hid (by
          rw [HS.out]
          intro hm
          rcases List.mem_append.1 hm with hm | hm
          · exact hno.out hm
          · have := List.mem_singleton.1 hm
            cases this; exact he ⟨rfl, rfl⟩)
        cases r <;> cases rx
        · have hn : ¬ n = nx := fun e => he ⟨rfl, e⟩
          clear he
          go_wp2
          go_quiet (fail)
          go_wp2
          go_roundw
          case rel => exact ⟨k + 1, by omega, by go_num, Hn, HMw.out.drewN _⟩
          case measure => simp [intOf]; omega
        · clear he
          go_wp2
          go_quiet (fail)
          go_wp2
          go_roundw
          case rel => exact ⟨k + 1, by omega, by go_num, Hn, HMw.out.drewN _⟩
          case measure => simp [intOf]; omega
        · clear he
          go_wp2
          go_quiet (fail)
          go_wp2
          go_roundw
          case rel => exact ⟨k + 1, by omega, by go_num, Hn, HMw.out.drewN _⟩
          case measure => simp [intOf]; omega
        · have hn : ¬ n = nx := fun e => he ⟨rfl, e⟩
          clear he
          go_wp2
          go_quiet (fail)
          go_wp2
          go_roundw
          case rel => exact ⟨k + 1, by omega, by go_num, Hn, HMw.out.drewN _⟩
          case measure => simp [intOf]; omega
    · obtain rfl : k = l.length := by omega
      have Hn : Hid ((⟨r, n⟩ : V) ∉ l) := Lib.hid (fun h => hno.out (by rw [List.take_length]; exact h))
      have HMw := Lib.hid hM
      clear hM hM0
      go_wp2
      go_ret
      exact ⟨⟨-1, rfl, by omega, fun h => by omega, fun h => (Hn.out h).elim⟩, HMw.out.below⟩

def HasVSays (l : List V) (y : V) (e : Ending) : Prop := ∃ b : Bool, e = .returned (.bool b) ∧ (b = true ↔ y ∈ l)
set_option maxRecDepth 100000 in
theorem containsV_any (w : World) (v : Value) (l : List V) (y : V) (hl : IsVals w v l) :
    Calls Try.prog 39 #[v, .agg #[.bool y.ref, .int .i64 y.n]] w fun e w' => HasVSays l y e ∧ Below w.heap.size w w' := by
  obtain ⟨a, cap, rfl, hc⟩ := hl.slice
  have hM0 := (Mem.start w).alloc #[.bool y.ref, .int .i64 y.n] 60
  have HM := Lib.hid hM0
  have HI := Lib.hid (indexV_any _ _ l y (hl.later hM0.below))
  clear hl hM0
  go_enter Try.func39, Try.ntmps39
  go_wp2_with fail
  refine HI.out.mono ?_
  rintro e w1 ⟨⟨k, rfl, hk1, hk⟩, hb⟩
  have HB := Lib.hid (HM.out.call hb).below
  have Hk := Lib.hid hk
  clear hk hb
  go_wp2
  go_ret
  exact ⟨⟨_, rfl, by simpa using Hk.out⟩, HB.out⟩
end Go.Proofs.Ytnpbdabboecpaaa
