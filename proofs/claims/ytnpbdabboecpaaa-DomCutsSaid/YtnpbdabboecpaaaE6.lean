/- inside at every two lists; what two objects keep is nested or apart (plain). -/
import Derived.Test.YtnpbdabboecpaaaE3
import Derived.Test.YtnpbdabboecpaaaLh
namespace Go.Proofs.Ytnpbdabboecpaaa
open Go.RowKit Go.Shelf

def InsideSays (l m : List Int) (e : Ending) : Prop := ∃ b, e = .returned (.bool b) ∧ (b = true ↔ ∀ x ∈ l, x ∈ m)
set_option maxHeartbeats 400000 in
theorem inside_any (u v : Value) (l m : List Int) (w : World) (hl : IsInts w u l) (hm : IsInts w v m) :
    Calls Try.prog 20 #[u, v] w fun e w' => InsideSays l m e ∧ w = w' := by
  obtain ⟨a, cap, rfl, hml⟩ := hl.slice
  obtain ⟨am, cm, rfl, hmm⟩ := hm.slice
  have Hl := Lib.hid hl
  have Hm := Lib.hid hm
  clear hl hm
  go_enter Try.func20, Try.ntmps20
  go_wp2
  go_loop [9] (fun i => ∃ k : Nat, k ≤ l.length ∧ i = .int .i64 k ∧ Hid (∀ x ∈ l.take k, x ∈ m)) (fun i => l.length - (intOf i).toNat)
  case atStart => exact ⟨0, Nat.zero_le _, rfl, Lib.hid (by simp)⟩
  case round =>
    obtain ⟨k, hk, rfl, H⟩ := hrel
    by_cases hlt : k < l.length
    · obtain ⟨y, hx⟩ := get_some _ _ hlt
      obtain ⟨b, off, cap2, hv, hb, hn, c1, _⟩ := Hl.out.at (Below.refl _ _) hx
      cases hv
      have Hx := Lib.hid hx
      clear hx
      have hh := has_any _ m y w Hm.out
      obtain ⟨bb, hbb⟩ : ∃ bb, hasB m y = bb := ⟨_, rfl⟩
      rw [hbb] at hh
      have Hh := Lib.hid hh
      have Hbb := Lib.hid hbb
      clear hh hbb
      cases bb with
      | true =>
        have Hn : Hid (∀ x ∈ l.take (k + 1), x ∈ m) := Lib.hid (by
          rw [take_succ_some _ _ _ Hx.out]
          intro x hxm
          rcases List.mem_append.1 hxm with h | h
          · exact H.out x h
          · rw [List.mem_singleton.1 h]; exact hasB_iff.1 Hbb.out)
        go_wp2_with fail
        refine Hh.out.mono ?_
        rintro e w1 ⟨rfl, rfl⟩
        go_wp2
        go_round
        case rel => exact ⟨k + 1, by omega, by go_num, Hn⟩
        case measure => simp [intOf]; omega
      | false =>
        have Hn : Hid (false = true ↔ ∀ x ∈ l, x ∈ m) := Lib.hid ⟨fun h => (by cases h), fun h => by
          have := hasB_iff.2 (h y (List.mem_of_getElem? Hx.out))
          rw [Hbb.out] at this; exact this⟩
        go_wp2_with fail
        refine Hh.out.mono ?_
        rintro e w1 ⟨rfl, rfl⟩
        go_wp2
        refine bodyPost_ret (v := .bool false) (by simp [results, Try.results20, go_sem]) rfl ⟨⟨false, rfl, Hn.out⟩, rfl⟩
    · obtain rfl : k = l.length := by omega
      have Hn : Hid (∀ x ∈ l, x ∈ m) := Lib.hid (fun x hx => H.out x (by rw [List.take_length]; exact hx))
      go_wp2
      refine bodyPost_ret (v := .bool true) (by simp [results, Try.results20, go_sem]) rfl ⟨⟨true, rfl, ⟨fun _ => Hn.out, fun _ => rfl⟩⟩, rfl⟩

namespace Dom
theorem ret_nested {g : G} (hG : Good g) {up : List Int} (h : GrowS g up) {v u y : Int} (hv : y ∈ ret up v g.objs.length) (hu : y ∈ ret up u g.objs.length) :
    (∀ z ∈ ret up v g.objs.length, z ∈ ret up u g.objs.length) ∨ (∀ z ∈ ret up u g.objs.length, z ∈ ret up v g.objs.length) := by
  obtain ⟨⟨y0, yn⟩, hy1, hy2⟩ := mem_ret.1 hv
  obtain ⟨_, _, hy3⟩ := mem_ret.1 hu
  obtain ⟨R, _, hR⟩ := h.rank
  have hry : Rch g y := by
    apply Classical.byContradiction
    intro h3; exact hy1 ((h.out y y0 yn).2 h3)
  have hlow : ∀ x, Rch g x → upAt up x ≠ -2 := fun x hx e => ((h.out x (rch_in hG hx).1 (rch_in hG hx).2).1 e) hx
  have hs : St ⟨fun x => Rch g x, R, fun _ => []⟩ (upAt up) := by
    rintro x ⟨hx, _⟩
    rcases hR x hx with h4 | ⟨h4, h5⟩
    · exact .inl h4
    · exact .inr ⟨⟨h4, hlow _ h4⟩, h5⟩
  have hk : Rk ⟨fun x => Rch g x, R, fun _ => []⟩ (upAt up) y := ⟨hry, hlow y hry⟩
  rcases Nat.le_total (R v) (R u) with hle | hle
  · have ha := anc_linear hs hy3 hy2 hk hle
    refine .inr fun z hz => ?_
    obtain ⟨h1, h2, h3⟩ := mem_ret.1 hz
    exact mem_ret.2 ⟨h1, h2, ha.trans h3⟩
  · have ha := anc_linear hs hy2 hy3 hk hle
    refine .inl fun z hz => ?_
    obtain ⟨h1, h2, h3⟩ := mem_ret.1 hz
    exact mem_ret.2 ⟨h1, h2, ha.trans h3⟩
theorem ret_rch {g : G} {up : List Int} (h : GrowS g up) {v y : Int} (hv : y ∈ ret up v g.objs.length) : Rch g y := by
  obtain ⟨⟨y0, yn⟩, hy1, _⟩ := mem_ret.1 hv
  apply Classical.byContradiction
  intro h3; exact hy1 ((h.out y y0 yn).2 h3)
theorem ret_self {g : G} {up : List Int} (h : GrowS g up) {v : Int} (h0 : 0 ≤ v) (hn : v < g.objs.length) : v ∈ ret up v g.objs.length ↔ Rch g v := by
  constructor
  · exact ret_rch h
  · intro hr
    exact mem_ret.2 ⟨⟨h0, hn⟩, fun e => ((h.out v h0 hn).1 e) hr, .here h0⟩
end Dom
theorem far_rch {g : G} {l dist : List Int} (h : Far g l dist) (y : Int) : Rch g y → y ∈ l := by
  intro hr
  induction hr with
  | root h1 h2 _ => exact (h.root _ (mem_targets_iff.2 ⟨_, h1, h2, rfl⟩)).1
  | step _ h1 h2 _ ih => exact (h.closed _ ih _ (mem_targets_iff.2 ⟨_, h1, h2, rfl⟩)).1
end Go.Proofs.Ytnpbdabboecpaaa
