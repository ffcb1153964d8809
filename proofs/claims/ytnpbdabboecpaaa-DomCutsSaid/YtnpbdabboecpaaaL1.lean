/- The cut graph is a good one; what is kept and what is left make all. Plain. -/
import Derived.Test.YtnpbdabboecpaaaL0
import Derived.Test.YtnpbdabboecpaaaE6
namespace Go.Proofs.Ytnpbdabboecpaaa

theorem cut_good {g : G} (hG : Good g) (v : Int) : Good (cutG g v) := by
  refine ⟨by simp [cutG, hG.objs], by simp [cutG, hG.roots], ?_, ?_⟩
  · intro o ho
    obtain ⟨o', ho', rfl⟩ := List.mem_map.1 (show o ∈ g.objs.map fun o => o.map (cutV v) from ho)
    rw [List.length_map]
    exact hG.fields o' ho'
  · intro x hx
    have hl : (cutG g v).objs.length = g.objs.length := by simp [cutG]
    rw [hl]
    have hm : x ∈ (allV g).map (cutV v) := by
      rcases List.mem_append.1 hx with h | h
      · obtain ⟨y, hy, rfl⟩ := List.mem_map.1 (show x ∈ g.roots.map (cutV v) from h)
        exact List.mem_map.2 ⟨y, List.mem_append_left _ hy, rfl⟩
      · obtain ⟨o, ho, hxo⟩ := List.mem_flatten.1 h
        obtain ⟨o', ho', rfl⟩ := List.mem_map.1 (show o ∈ g.objs.map fun o => o.map (cutV v) from ho)
        obtain ⟨y, hy, rfl⟩ := List.mem_map.1 hxo
        exact List.mem_map.2 ⟨y, List.mem_append_right _ (List.mem_flatten.2 ⟨o', ho', hy⟩), rfl⟩
    obtain ⟨y, hy, rfl⟩ := List.mem_map.1 hm
    unfold cutV
    split
    · simp [badC]
    · exact hG.vals y hy
/-- What v keeps, among what can be come to: what is not come to when v is cut out. -/
theorem ret_cut {g : G} (hG : Good g) {up : List Int} (h : Dom.GrowS g up) {v y : Int} (hv : 0 ≤ v) : y ∈ Dom.ret up v g.objs.length ↔ Rch g y ∧ ¬ Rch (cutG g v) y := by
  rw [cut_rch]
  constructor
  · intro hy
    have hr := Dom.ret_rch h hy
    exact ⟨hr, (h.anc y v hr hv).1 (Dom.mem_ret.1 hy).2.2⟩
  · rintro ⟨hr, hn⟩
    have hi := Dom.rch_in hG hr
    exact Dom.mem_ret.2 ⟨hi, fun e => ((h.out y hi.1 hi.2).1 e) hr, (h.anc y v hr hv).2 hn⟩
end Go.Proofs.Ytnpbdabboecpaaa
