/- masked: some objects; GraphLeast. -/
import Derived.Test.YtjeaaiklbefmmaaLh
import Derived.Test.YtjeaaiklbefmmaaSo
import Derived.Test.YtjeaaiklbefmmaaOpen
namespace Go.Proofs.Ytjeaaiklbefmmaa
open Go.RowKit Go.Shelf

set_option maxRecDepth 100000 in
set_option maxHeartbeats 1000000 in
theorem masked_any (n : Nat) (m : Int) (w : World) :
    Calls Try.prog 29 #[.int .i64 n, .int .u32 m] w fun e w' => ∃ v l, e = .returned v ∧ (∀ x ∈ l, 0 ≤ x ∧ x < (n : Int)) ∧ l.length ≤ 32 ∧ Mem w.heap.size w w' [rowI 3 v l] := by
  have hM0 := (Mem.start w).nilI 3
  go_enter Try.func29, Try.ntmps29
  go_wp2
  go_loopw [5, 6] (fun v i wr => ∃ (k : Nat) (l : List Int), k ≤ n ∧ k ≤ 32 ∧ l.length ≤ k ∧ i = .int .i64 k ∧ (∀ x ∈ l, 0 ≤ x ∧ x < (n : Int)) ∧ Mem w.heap.size w wr [rowI 3 v l]) (fun _ i _ => n - (intOf i).toNat)
  case atStart => exact ⟨0, [], Nat.zero_le _, by omega, Nat.le_refl _, rfl, by simp, hM0⟩
  case round =>
    obtain ⟨k, l, hk, hk2, hkl, rfl, hl, hM⟩ := hrel
    have Hl := Lib.hid hl
    have HM := Lib.hid hM
    clear hl hM
    by_cases hlt : k < n
    · by_cases hlt2 : k < 32
      · go_wp2_with (at_builtin; refine Mem.wp_appI elemInts rfl (.tmp 22) (.tmp 24) rfl HM.out 0 rfl rfl _ (k : Int) _ _ rfl (by simp) (by omega) ?_; intro ad n1 cp w1 hn1 hM3 hs1 hk1 ha1)
        · go_roundw
          case rel =>
            refine ⟨k + 1, l ++ [(k : Int)], by omega, by omega, by simp; omega, by go_num, ?_, hM3⟩
            intro x hx
            rcases List.mem_append.1 hx with h | h
            · exact Hl.out x h
            · simp at h; subst h; omega
          case measure => simp [intOf]; omega
        · go_roundw
          case rel => exact ⟨k + 1, l, by omega, by omega, by omega, by go_num, Hl.out, HM.out⟩
          case measure => simp [intOf]; omega
      · go_wp2
        go_ret
        exact ⟨_, l, rfl, Hl.out, by omega, HM.out⟩
    · go_wp2
      go_ret
      exact ⟨_, l, rfl, Hl.out, by omega, HM.out⟩

theorem rising_sorted {l : List Int} (h : l.Nodup) : Rising (sorted l) := by
  have h1 : (sorted l).Pairwise (· ≤ ·) := by
    have := List.pairwise_mergeSort (le := fun x y : Int => decide (x ≤ y)) (by intro a b c h1 h2; simp at *; omega) (by intro a b; simp; omega) l
    exact this.imp (by intro a b h; simpa using h)
  have h2 : (sorted l).Nodup := (List.mergeSort_perm l _).symm.nodup h
  intro k x y hx hy
  obtain ⟨hk, rfl⟩ := List.getElem?_eq_some_iff.1 hx
  obtain ⟨hk2, rfl⟩ := List.getElem?_eq_some_iff.1 hy
  have a := List.pairwise_iff_getElem.1 h1 k (k + 1) hk hk2 (by omega)
  have b := List.pairwise_iff_getElem.1 h2 k (k + 1) hk hk2 (by omega)
  omega

theorem Far.least {g : G} {l dist : List Int} (h : Far g l dist) {s : List Int} (hs : Closed g s) : ∀ y ∈ l, y ∈ s := by
  have key : ∀ (n : Nat) (y : Int), y ∈ l → D (l, dist) y = n → y ∈ s := by
    intro n
    induction n with
    | zero =>
      intro y hy hd
      rcases h.par y hy with ⟨h1, _⟩ | ⟨p, hp, _, h2⟩
      · exact hs.1 y h1
      · have := (h.inv.found (h.inv.rng p hp)).2 hp
        omega
    | succ n ih =>
      intro y hy hd
      rcases h.par y hy with ⟨h1, _⟩ | ⟨p, hp, h1, h2⟩
      · exact hs.1 y h1
      · exact hs.2 p (ih p hp (by omega)) y h1
  intro y hy
  have := (h.inv.found (h.inv.rng y hy)).2 hy
  exact key (D (l, dist) y).toNat y hy (by omega)
theorem far_closed {g : G} {l dist : List Int} (h : Far g l dist) : Closed g (sorted l) :=
  ⟨fun j hj => mem_sorted.2 (h.root j hj).1, fun i hi j hj => mem_sorted.2 (h.closed i (mem_sorted.1 hi) j hj).1⟩

set_option maxRecDepth 100000 in
set_option maxHeartbeats 4000000 in
theorem least_good (g : G) (hG : Good g) (v : Value) (m : Int) (w : World) (hg : IsGraph w v g) :
    Calls Try.prog 9 #[v, .int .u32 m] w fun e w' => e = .returned (.bool true) ∧ Below w.heap.size w w' := by
  have hg0 := hg
  obtain ⟨vo, vr, rfl, ho, hr⟩ := hg
  obtain ⟨ao, co, rfl, hlo⟩ := ho.slice
  obtain ⟨ar, cr, rfl, hlr⟩ := hr.slice
  have Hg := Lib.hid hg0
  clear ho hr hg0
  have hM0 := (Mem.start w).alloc #[.slice ao g.objs.length co, .slice ar g.roots.length cr] 25
  go_enter Try.func9, Try.ntmps9
  go_wp2_with fail
  refine (good_yes _ g _ (Hg.out.later hM0.below) hG).mono ?_
  rintro e w1 ⟨rfl, hb⟩
  have hM1 := hM0.call hb
  have p0 : w1.cell? ⟨w.heap.size, 0, none⟩ = some (.slice ao g.objs.length co) := by have := hM1.cell 0 rfl 0; simpa using this
  have p1 : w1.cell? ⟨w.heap.size, 1, none⟩ = some (.slice ar g.roots.length cr) := by have := hM1.cell 0 rfl 1; simpa using this
  go_wp2_with fail
  refine (reach_any g hG _ w1 (Hg.out.later hM1.below)).mono ?_
  rintro e w2 ⟨vl, l, dist, rfl, hF, hM2⟩
  have hM3 := hM1.callMem hM2
  have hfar := hF.far hG
  have hI := isInts_reach hG hF 0 hM3 rfl
  have hrange : ∀ x ∈ sorted l, 0 ≤ x ∧ x < (g.objs.length : Int) := fun x hx => hfar.inv.rng x (mem_sorted.1 hx)
  have HF := Lib.hid hF
  have Hfar := Lib.hid hfar
  have HM3 := Lib.hid hM3
  have HI := Lib.hid hI
  have Hrange := Lib.hid hrange
  have hno := hG.objs
  clear hF hfar hM3 hM2 hI hrange
  have q0 : w2.cell? ⟨w.heap.size, 0, none⟩ = some (.slice ao g.objs.length co) := by have := HM3.out.cell 1 rfl 0; simpa using this
  have q1 : w2.cell? ⟨w.heap.size, 1, none⟩ = some (.slice ar g.roots.length cr) := by have := HM3.out.cell 1 rfl 1; simpa using this
  go_wp2_with fail
  refine (rising_yes _ (sorted l) _ HI.out (rising_sorted Hfar.out.inv.nodup)).mono ?_
  rintro e w3 ⟨rfl, hb3⟩
  have HM4 := Lib.hid (HM3.out.call hb3)
  have HI4 := Lib.hid (isInts_reach hG HF.out 0 HM4.out rfl)
  have r0 : w3.cell? ⟨w.heap.size, 0, none⟩ = some (.slice ao g.objs.length co) := by have := HM4.out.cell 1 rfl 0; simpa using this
  have r1 : w3.cell? ⟨w.heap.size, 1, none⟩ = some (.slice ar g.roots.length cr) := by have := HM4.out.cell 1 rfl 1; simpa using this
  go_wp2_with fail
  refine (within_yes g.objs.length _ (sorted l) _ HI4.out Hrange.out).mono ?_
  rintro e w4 ⟨rfl, rfl⟩
  go_wp2_with fail
  refine (closed_any _ g _ (sorted l) _ (Hg.out.later HM4.out.below) HI4.out Hrange.out).mono ?_
  rintro e w5 ⟨⟨b, rfl, hbc⟩, hb5⟩
  obtain rfl : b = true := hbc.2 (far_closed Hfar.out)
  clear hbc
  have HM5 := Lib.hid (HM4.out.call hb5)
  have s0 : w5.cell? ⟨w.heap.size, 0, none⟩ = some (.slice ao g.objs.length co) := by have := HM5.out.cell 1 rfl 0; simpa using this
  have s1 : w5.cell? ⟨w.heap.size, 1, none⟩ = some (.slice ar g.roots.length cr) := by have := HM5.out.cell 1 rfl 1; simpa using this
  go_wp2_with fail
  refine (masked_any g.objs.length m _).mono ?_
  rintro e w6 ⟨vs, s, rfl, hsr, hsl, hM6⟩
  have HM6 := Lib.hid (HM5.out.callMem hM6)
  have HIs := Lib.hid (isInts_of_own (HM6.out.ownI 0 rfl) (by omega) (fun x hx => by have := hsr x hx; exact ⟨by omega, by omega⟩))
  have HI6 := Lib.hid (isInts_reach hG HF.out 1 HM6.out rfl)
  have Hsr := Lib.hid hsr
  clear hsr hM6
  have t0 : w6.cell? ⟨w.heap.size, 0, none⟩ = some (.slice ao g.objs.length co) := by have := HM6.out.cell 2 rfl 0; simpa using this
  have t1 : w6.cell? ⟨w.heap.size, 1, none⟩ = some (.slice ar g.roots.length cr) := by have := HM6.out.cell 2 rfl 1; simpa using this
  go_wp2_with fail
  refine (closed_any _ g _ s _ (Hg.out.later HM6.out.below) HIs.out Hsr.out).mono ?_
  rintro e w7 ⟨⟨b, rfl, hbc⟩, hb7⟩
  have Hbc := Lib.hid hbc
  have HM7 := Lib.hid (HM6.out.call hb7)
  clear hbc
  cases b
  · go_wp2
    go_ret
    exact ⟨rfl, HM7.out.below⟩
  · have HIs7 := Lib.hid (isInts_of_own (HM7.out.ownI 0 rfl) (by omega) (fun x hx => by have := Hsr.out x hx; exact ⟨by omega, by omega⟩))
    have HI7 := Lib.hid (isInts_reach hG HF.out 1 HM7.out rfl)
    go_wp2_with fail
    refine (inside_yes _ _ (sorted l) s _ HI7.out HIs7.out (fun x hx => Hfar.out.least (Hbc.out.1 trivial) x (mem_sorted.1 hx))).mono ?_
    rintro e w8 ⟨rfl, rfl⟩
    go_wp2
    go_ret
    exact ⟨rfl, HM7.out.below⟩

def IsMask (v : Value) : Prop := ∃ m : Int, v = .int .u32 m ∧ 0 ≤ m ∧ m < 4294967296
set_option maxRecDepth 100000 in
open Go.ChangeShapes Go.WideShapes Go.Joins in
theorem open_mask {H : Type} {enc : TypeId × Value → H} {W : World} {base : Nat} {v : Value} {d : DataW H} {p : List MemPlace}
    (hv : Value.okWide Try.prog W .any base 52 v) (h : DataW.Trod enc Try.prog W 0 (fun _ => true) true 52 v d p) : IsMask v := by
  obtain ⟨x, rfl, rfl, rfl, wx⟩ := open_int Try.underlying52 hv h
  have hb := bounds_u32 wx
  exact ⟨_, rfl, by omega, by omega⟩

theorem least_walk (w : World) (v u : Value) (h : ∃ g, IsGraph w v g) (hu : IsMask u) : Calls Try.prog 9 #[v, u] w fun e w' => e = .returned (.bool true) ∧ Below w.heap.size w w' := by
  obtain ⟨g, hg⟩ := h
  obtain ⟨m, rfl, _⟩ := hu
  by_cases hG : Good g
  · exact least_good g hG v m w hg
  · have hg0 := hg
    obtain ⟨vo, vr, rfl, ho, hr⟩ := hg
    obtain ⟨ao, co, rfl, hlo⟩ := ho.slice
    obtain ⟨ar, cr, rfl, hlr⟩ := hr.slice
    have Hg := Lib.hid hg0
    have HG := Lib.hid hG
    clear ho hr hg0 hG
    have hM0 := (Mem.start w).alloc #[.slice ao g.objs.length co, .slice ar g.roots.length cr] 25
    go_enter Try.func9, Try.ntmps9
    go_wp2_with fail
    refine (good_no _ g _ (Hg.out.later hM0.below) HG.out).mono ?_
    rintro e w1 ⟨rfl, hb⟩
    have hM1 := hM0.call hb
    have p0 : w1.cell? ⟨w.heap.size, 0, none⟩ = some (.slice ao g.objs.length co) := by have := hM1.cell 0 rfl 0; simpa using this
    have p1 : w1.cell? ⟨w.heap.size, 1, none⟩ = some (.slice ar g.roots.length cr) := by have := hM1.cell 0 rfl 1; simpa using this
    go_wp2_with fail
    refine (refused_yes _ g _ (Hg.out.later hM1.below) HG.out).mono ?_
    rintro e w2 ⟨rfl, hb2⟩
    have hM2 := hM1.call hb2
    go_wp2
    go_ret
    exact ⟨rfl, hM2.below⟩
end Go.Proofs.Ytjeaaiklbefmmaa
