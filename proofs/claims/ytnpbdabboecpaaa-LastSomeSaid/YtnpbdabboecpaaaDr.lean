/- ragpickerref.Reach, walked. -/
import Derived.Test.YtnpbdabboecpaaaDm
namespace Go.Proofs.Ytnpbdabboecpaaa
open Go.RowKit Go.Shelf

def metTo (d : List Int) (k : Nat) : List Int := ((List.range k).filter fun i => decide (0 ≤ dAt d i)).map fun (i : Nat) => (i : Int)
theorem metTo_succ (d : List Int) (k : Nat) : metTo d (k + 1) = metTo d k ++ if 0 ≤ dAt d k then [(k : Int)] else [] := by
  unfold metTo
  rw [List.range_succ, List.filter_append, List.map_append]
  congr 1
  rw [List.filter_cons]
  by_cases h : 0 ≤ dAt d k
  · rw [if_pos h]; simp [h]
  · rw [if_neg h]; simp [h]
theorem metTo_len (d : List Int) (k : Nat) : (metTo d k).length ≤ k := by
  unfold metTo
  rw [List.length_map]
  have := List.length_filter_le (fun i => decide (0 ≤ dAt d i)) (List.range k)
  simpa using this
theorem mem_metTo {d : List Int} {k : Nat} {x : Int} : x ∈ metTo d k ↔ 0 ≤ x ∧ x < k ∧ 0 ≤ dAt d x.toNat := by
  unfold metTo
  simp only [List.mem_map, List.mem_filter, List.mem_range, decide_eq_true_eq]
  constructor
  · rintro ⟨i, ⟨hi, hk⟩, rfl⟩
    exact ⟨by omega, by omega, by simpa using hk⟩
  · rintro ⟨h0, h1, h2⟩
    exact ⟨x.toNat, ⟨by omega, h2⟩, by omega⟩
theorem metTo_rising (d : List Int) (k : Nat) : (metTo d k).Pairwise (· < ·) := by
  unfold metTo
  rw [List.pairwise_map]
  have h : ((List.range k).filter fun i => decide (0 ≤ dAt d i)).Pairwise (· < ·) := List.Pairwise.filter _ List.pairwise_lt_range
  exact h.imp (fun h => by omega)

/-- What ragpickerref.Reach hands back. -/
structure ReachR (g : G) (l : List Int) : Prop where
  rng : ∀ x ∈ l, 0 ≤ x ∧ x < (g.objs.length : Int)
  rising : l.Pairwise (· < ·)
  sound : ∀ x ∈ l, ∀ S, ClosedN g S → S x.toNat
  closed : ClosedN g (fun x => (x : Int) ∈ l)
theorem DistR.reach {g : G} {d : List Int} (h : DistR g d) : ReachR g (metTo d g.objs.length) := by
  refine ⟨fun x hx => ⟨(mem_metTo.1 hx).1, (mem_metTo.1 hx).2.1⟩, metTo_rising _ _, fun x hx S hS => h.sound _ (mem_metTo.1 hx).2.2 S hS, ?_⟩
  have he : ∀ x : Nat, (x : Int) ∈ metTo d g.objs.length ↔ 0 ≤ dAt d x := by
    intro x
    rw [mem_metTo, Int.toNat_natCast]
    constructor
    · exact fun h => h.2.2
    · intro h1
      have := dAt_lt h1
      rw [h.len] at this
      exact ⟨by omega, by omega, h1⟩
  have : (fun x : Nat => (x : Int) ∈ metTo d g.objs.length) = (fun x => 0 ≤ dAt d x) := funext fun x => propext (he x)
  rw [this]
  exact h.closed

set_option maxHeartbeats 400000 in
theorem reachR_any (g : G) (hn : g.objs.length ≤ 1000) (v : Value) (w : World) (hg : IsGraph w v g) :
    Calls Try.prog 19 #[v] w fun e w' => ∃ vl l, e = .returned vl ∧ ReachR g l ∧ Mem w.heap.size w w' [rowI 3 vl l] := by
  have hg0 := hg
  obtain ⟨vo, vr, rfl, ho, hr⟩ := hg
  obtain ⟨ao, co, rfl, hlo⟩ := ho.slice
  obtain ⟨ar, cr, rfl, hlr⟩ := hr.slice
  have Hg := Lib.hid hg0
  clear ho hr hg0
  have hM0 := (Mem.start w).alloc #[.slice ao g.objs.length co, .slice ar g.roots.length cr] 25
  go_enter Try.func19, Try.ntmps19
  go_wp2_with fail
  refine (distR_any g hn _ _ (Hg.out.later hM0.below)).mono ?_
  rintro e w1 ⟨d, b, rfl, hD, hM1⟩
  have hM2 := (hM0.callMem hM1).nilI 3
  have HD := Lib.hid hD
  have HM2 := Lib.hid hM2
  clear hM0 hM1 hM2 hD
  go_wp2
  go_loopw [3, 9] (fun v i wr => ∃ k : Nat, k ≤ g.objs.length ∧ i = .int .i64 k ∧ Mem w.heap.size w wr [rowI 3 v (metTo d k), rowI 3 (.slice (some ⟨b, 0, none⟩) g.objs.length g.objs.length) d, ebox w.heap.size #[.slice ao g.objs.length co, .slice ar g.roots.length cr] 25]) (fun _ i _ => g.objs.length - (intOf i).toNat)
  case atStart => exact ⟨0, Nat.zero_le _, rfl, HM2.out⟩
  case round =>
    clear HM2
    obtain ⟨k, hk, rfl, hM⟩ := hrel
    by_cases hlt : k < g.objs.length
    · obtain ⟨x, hx⟩ := get_some d k (by rw [HD.out.len]; exact hlt)
      obtain ⟨q1, q2⟩ := hM.intAt 1 rfl hx
      have hs := metTo_succ d k
      rw [dAt_some hx] at hs
      have HS := Lib.hid hs
      have hln := metTo_len d k
      have HM := Lib.hid hM
      clear hx hs hM
      rcases hx0 : decide (0 ≤ x) with _ | _
      · have Hn := Lib.hid (show ¬ 0 ≤ x by simpa using hx0)
        go_wp2
        go_roundw
        case rel => exact ⟨k + 1, by omega, by go_num, HM.out.cast (by rw [HS.out, if_neg Hn.out, List.append_nil])⟩
        case measure => simp [intOf]; omega
      · have Hn := Lib.hid (show 0 ≤ x by simpa using hx0)
        go_wp2_with (at_builtin; refine Mem.wp_appI elemInts rfl (.tmp 16) (.tmp 18) rfl HM.out 0 rfl rfl _ (k : Int) _ _ rfl (by simp) (by omega) ?_; intro ad n1 cp w2 hn1 hM3 hs1 hk1 ha1)
        go_roundw
        case rel => exact ⟨k + 1, by omega, by go_num, hM3.cast (by rw [HS.out, if_pos Hn.out]; rfl)⟩
        case measure => simp [intOf]; omega
    · obtain rfl : k = g.objs.length := by omega
      have HM := Lib.hid (hM.pick0 (A' := [rowI 3 _ (metTo d g.objs.length)]) [0] (by decide) rfl)
      have HR := Lib.hid HD.out.reach
      clear hM
      go_wp2
      go_ret
      exact ⟨_, _, rfl, HR.out, HM.out⟩
end Go.Proofs.Ytnpbdabboecpaaa
