/- GraphRenamed: every argument. -/
import Derived.Test.YtjeaaiklbefmmaaRd
namespace Go.Proofs.Ytjeaaiklbefmmaa
open Go.RowKit Go.Shelf

def IsByte (v : Value) : Prop := ∃ k : Nat, v = .int .u8 k ∧ k < 256
set_option maxRecDepth 100000 in
open Go.ChangeShapes Go.WideShapes Go.Joins in
theorem open_byte {H : Type} {enc : TypeId × Value → H} {W : World} {base : Nat} {v : Value} {d : DataW H} {p : List MemPlace}
    (hv : Value.okWide Try.prog W .any base 5 v) (h : DataW.Trod enc Try.prog W 0 (fun _ => true) true 5 v d p) : IsByte v := by
  obtain ⟨x, rfl, rfl, rfl, wx⟩ := open_int Try.underlying5 hv h
  have hb := bounds_u8 wx
  exact ⟨x.toNat, by rw [Int.toNat_of_nonneg (by omega)], by omega⟩

theorem renamed_edge (g : G) (hG : Good g) (n : Nat) (hn : g.objs.length = n) (hb : n = 0 ∨ n = 24) (v : Value) (k : Nat) (w : World) (hg : IsGraph w v g) :
    Calls Try.prog 7 #[v, .int .u8 k] w fun e w' => e = .returned (.bool true) ∧ Below w.heap.size w w' := by
  have hg0 := hg
  obtain ⟨vo, vr, rfl, ho, hr⟩ := hg
  obtain ⟨ao, co, rfl, hlo⟩ := ho.slice
  obtain ⟨ar, cr, rfl, hlr⟩ := hr.slice
  have Hg := Lib.hid hg0
  have HG := Lib.hid hG
  clear ho hr hg0 hG
  have hM0 := (Mem.start w).alloc #[.slice ao g.objs.length co, .slice ar g.roots.length cr] 25
  rw [hn] at hM0 ⊢
  rw [hn] at Hg
  have hz3 : ((n : Int) == 0) = decide (n = 0) := by by_cases h : n = 0 <;> simp [h]
  have hz4 : ((n : Int) == 24) = decide (n = 24) := by by_cases h : n = 24 <;> simp [h]; omega
  rcases hb with rfl | rfl
  all_goals
    go_enter Try.func7, Try.ntmps7
    go_wp2_with fail
    refine (good_yes _ g _ (Hg.out.later hM0.below) HG.out).mono ?_
    rintro e w1 ⟨rfl, hb1⟩
    have hM1 := hM0.call hb1
    obtain ⟨p0, p1⟩ := hM1.cells2 0 rfl
    go_wp2_with fail
    refine (good_yes _ g _ (Hg.out.later hM1.below) HG.out).mono ?_
    rintro e w2 ⟨rfl, hb2⟩
    have hM2 := hM1.call hb2
    go_wp2
    go_ret
    exact ⟨rfl, hM2.below⟩

theorem renamed_walk (w : World) (v u : Value) (h : ∃ g, IsGraph w v g) (hu : IsByte u) : Calls Try.prog 7 #[v, u] w fun e w' => e = .returned (.bool true) ∧ Below w.heap.size w w' := by
  obtain ⟨g, hg⟩ := h
  obtain ⟨k, rfl, hk⟩ := hu
  by_cases hG : Good g
  · by_cases h0 : g.objs.length = 0
    · exact renamed_edge g hG _ rfl (.inl h0) v k w hg
    · by_cases h24 : g.objs.length = 24
      · exact renamed_edge g hG _ rfl (.inr h24) v k w hg
      · exact renamed_good g hG (by omega) (by have := hG.objs; omega) v k hk w hg
  · have hg0 := hg
    obtain ⟨vo, vr, rfl, ho, hr⟩ := hg
    obtain ⟨ao, co, rfl, hlo⟩ := ho.slice
    obtain ⟨ar, cr, rfl, hlr⟩ := hr.slice
    have Hg := Lib.hid hg0
    have HG := Lib.hid hG
    clear ho hr hg0 hG
    have hM0 := (Mem.start w).alloc #[.slice ao g.objs.length co, .slice ar g.roots.length cr] 25
    go_enter Try.func7, Try.ntmps7
    go_wp2_with fail
    refine (good_no _ g _ (Hg.out.later hM0.below) HG.out).mono ?_
    rintro e w1 ⟨rfl, hb⟩
    have hM1 := hM0.call hb
    obtain ⟨p0, p1⟩ := hM1.cells2 0 rfl
    go_wp2_with fail
    refine (good_no _ g _ (Hg.out.later hM1.below) HG.out).mono ?_
    rintro e w2 ⟨rfl, hb2⟩
    have hM2 := hM1.call hb2
    obtain ⟨q0, q1⟩ := hM2.cells2 0 rfl
    go_wp2_with fail
    refine (refused_yes _ g _ (Hg.out.later hM2.below) HG.out).mono ?_
    rintro e w3 ⟨rfl, hb3⟩
    have hM3 := hM2.call hb3
    go_wp2
    go_ret
    exact ⟨rfl, hM3.below⟩
end Go.Proofs.Ytjeaaiklbefmmaa
