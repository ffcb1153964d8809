/- ShareLeast, walked. -/
import Derived.Test.YtdmgpiimacnapaaHt
import Derived.Test.YtdmgpiimacnapaaHz
import Derived.Test.YtdmgpiimacnapaaVa
import Derived.Test.YtdmgpiimacnapaaLh
import Derived.Test.YtdmgpiimacnapaaOpen
namespace Go.Proofs.Ytdmgpiimacnapaa
open Go.RowKit Go.Shelf

theorem lots_own_q {g : G} (hG : Good g) {m : Int × Int → Option Nat} {s : List Int × List Int} (h : Apart g m) (hs : Lots m g.objs.length s) {m2 : Int × Int → Option Nat} (h2 : Apart (quo g s) m2) :
    (∀ x y : Int, (0 ≤ x ∧ x < (s.1.length : Int)) → (0 ≤ y ∧ y < (s.1.length : Int)) → (m2 (x, y) = none ↔ x = y)) ∧ quo (quo g s) (lots m2 (quo g s).objs.length) = quo g s := by
  have e : m2 = quoM g m s := h2.unique (quo_apart hG h hs)
  subst e
  have hk := fun x y hx hy => quo_told hG h hs (x := x) (y := y) hx hy
  refine ⟨hk, ?_⟩
  rw [quo_len, lots_own s.1.length hk s.1.length (Nat.le_refl _)]
  have := quo_own (quo_good hG hs)
  rwa [quo_len] at this

set_option maxRecDepth 100000 in
set_option maxHeartbeats 4000000 in
theorem sleast_good (g : G) (hG : Good g) (v : Value) (w : World) (hg : IsGraph w v g) :
    Calls Try.prog 3 #[v] w fun e w' => e = .returned (.bool true) ∧ Below w.heap.size w w' := by
  have Hg := Lib.hid hg
  obtain ⟨vo, vr, rfl, ho, hr⟩ := hg
  obtain ⟨ao, co, rfl, hlo⟩ := ho.slice
  obtain ⟨ar, cr, rfl, hlr⟩ := hr.slice
  have hn := hG.objs
  clear ho hr
  have hM0 := (Mem.start w).alloc #[.slice ao g.objs.length co, .slice ar g.roots.length cr] 25
  go_enter Try.func3, Try.ntmps3
  go_wp2_with fail
  refine (good_yes _ g _ (Hg.out.later hM0.below) hG).mono ?_
  rintro e w1 ⟨rfl, hb1⟩
  have hM1 := hM0.call hb1
  obtain ⟨p0, p1⟩ := hM1.cells2 0 rfl
  go_wp2_with fail
  refine (share_any g hG _ _ (Hg.out.later hM1.below)).mono ?_
  rintro e w2 ⟨vh, vl, m, rfl, hA, hgr, hl, hb2⟩
  have hM2 := hM1.call hb2
  obtain ⟨s, hs⟩ : ∃ s, lots m g.objs.length = s := ⟨_, rfl⟩
  have hL := lots_ok hA g.objs.length
  rw [hs] at hL hl hgr
  have hGh := quo_good hG hL
  have hown := fun m2 h2 => lots_own_q hG hA hL (m2 := m2) h2
  have hlen := quo_len (g := g) (s := s)
  have hhome : ∀ i : Nat, i < s.1.length → (i : Int) ∈ s.2 := by
    intro i hi
    obtain ⟨f, hf⟩ := get_some _ _ hi
    exact List.mem_of_getElem? (hL.home i f hf)
  have hin : ∀ x ∈ s.2, 0 ≤ x ∧ x < (s.1.length : Int) := by
    intro x hx
    obtain ⟨i, hi⟩ := List.getElem?_of_mem hx
    have hi2 : i < g.objs.length := by have := (List.getElem?_eq_some_iff.1 hi).1; rw [hL.len] at this; exact this
    obtain ⟨k, f, e1, e2, _⟩ := hL.at_ i hi2
    rw [hi] at e1
    cases e1
    have := (List.getElem?_eq_some_iff.1 e2).1
    omega
  obtain ⟨h, hh⟩ : ∃ h, quo g s = h := ⟨_, rfl⟩
  rw [hh] at hgr hGh hlen
  simp only [hh] at hown
  have hK : h.objs.length ≤ 24 := hGh.objs
  rw [← hlen] at hhome hin
  simp only [← hlen] at hown
  have HC := Lib.hid hgr
  obtain ⟨vco, vcr, rfl, hco, hcr⟩ := hgr
  obtain ⟨a5, c5, rfl, _⟩ := hco.slice
  obtain ⟨a6, c6, rfl, _⟩ := hcr.slice
  obtain ⟨a7, c7, hv7, _⟩ := hl.slice
  have HL := Lib.hid hL
  have Hl := Lib.hid hl
  rw [hL.len] at hv7
  subst hv7
  have HA := Lib.hid hA
  have HGh := Lib.hid hGh
  have Hown := Lib.hid hown
  have Hhome := Lib.hid hhome
  have Hin := Lib.hid hin
  clear hco hcr hA hs hL hl hh hlen hGh hown hhome hin
  obtain ⟨q0, q1⟩ := hM2.cells2 0 rfl
  have hsz2 : w.heap.size < w2.heap.size := (hM2.box 0 rfl).2.1
  have hM3 := hM2.alloc #[.slice a5 h.objs.length c5, .slice a6 h.roots.length c6] 25
  have hC3 : Below w2.heap.size w2 (w2.alloc (.cells #[.slice a5 h.objs.length c5, .slice a6 h.roots.length c6] 25)) := (Below.refl _ w2).alloc (Nat.le_refl _) _
  go_wp2_with fail
  refine (good_yes _ h _ (HC.out.later hC3) HGh.out).mono ?_
  rintro e w3 ⟨rfl, hb3⟩
  have hM4 := hM3.call hb3
  have hC4 := hC3.trans (hb3.mono (by simp))
  obtain ⟨r0, r1⟩ := hM4.cells2 0 rfl
  obtain ⟨r2, r3⟩ := hM4.cells2 1 rfl
  go_wp2_with fail
  refine (within_yes h.objs.length _ s.2 _ (Hl.out.later hC4) Hin.out).mono ?_
  rintro e w4 ⟨rfl, rfl⟩
  have HM4 := Lib.hid hM4
  have HC4 := Lib.hid hC4
  clear hM0 hM1 hM2 hM3 hM4 hC3 hC4 hb1 hb2 hb3 p0 p1 q0 q1
  have hsame : ∀ i j : Nat, i < g.objs.length → j < g.objs.length → (s.2.getD i 0 = s.2.getD j 0 ↔ m ((i : Int), (j : Int)) = none) := by
    intro i j hi hj
    have := Lots.same hG HA.out HL.out (x := (i : Int)) (y := (j : Int)) ⟨by omega, by omega⟩ ⟨by omega, by omega⟩
    unfold lotOf at this
    rwa [Int.toNat_natCast, Int.toNat_natCast] at this
  have Hsame := Lib.hid hsame
  clear hsame
  go_wp2
  go_loopw [6] (fun iv wr => ∃ i : Nat, i ≤ h.objs.length ∧ iv = .int .i64 i ∧ Mem w.heap.size w wr [ebox w2.heap.size #[.slice a5 h.objs.length c5, .slice a6 h.roots.length c6] 25, ebox w.heap.size #[.slice ao g.objs.length co, .slice ar g.roots.length cr] 25] ∧ Below w2.heap.size w2 wr)
    (fun iv _ => h.objs.length - (intOf iv).toNat)
  case atStart => exact ⟨0, Nat.zero_le _, rfl, HM4.out, HC4.out⟩
  case round =>
    clear HM4 HC4
    obtain ⟨i, hi, rfl, hM, hC⟩ := hrel
    obtain ⟨r0, r1⟩ := hM.cells2 0 rfl
    have hlI := Hl.out.later hC
    have HM := Lib.hid hM
    have HCr := Lib.hid hC
    have HlI := Lib.hid hlI
    clear hM hC hlI
    by_cases hlt : i < h.objs.length
    · have hmem := Hhome.out i hlt
      go_wp2_with fail
      refine (has_yes _ s.2 (i : Int) _ HlI.out hmem).mono ?_
      rintro e w5 ⟨rfl, rfl⟩
      clear hmem
      go_wp2
      go_loopw [7] (fun jv wx => ∃ j : Nat, j ≤ i ∧ jv = .int .i64 j ∧ Mem w.heap.size w wx [ebox w2.heap.size #[.slice a5 h.objs.length c5, .slice a6 h.roots.length c6] 25, ebox w.heap.size #[.slice ao g.objs.length co, .slice ar g.roots.length cr] 25] ∧ Below w2.heap.size w2 wx)
        (fun jv _ => i - (intOf jv).toNat)
      case atStart => exact ⟨0, Nat.zero_le _, rfl, HM.out, HCr.out⟩
      case round =>
        clear HM HCr HlI r0 r1
        obtain ⟨j, hj, rfl, hM, hC⟩ := hrel
        obtain ⟨r0, r1⟩ := hM.cells2 0 rfl
        have HM := Lib.hid hM
        have HCr := Lib.hid hC
        clear hM hC
        by_cases hlj : j < i
        · go_wp2_with fail
          refine (told_yes h HGh.out _ i j _ (HC.out.later HCr.out) (by omega) (by omega)).mono ?_
          rintro e w6 ⟨m2, vw, l2, hA2, _, rfl, _, hM6⟩
          have his : (m2 ((i : Int), (j : Int))).isSome = true := by
            have hk := ((Hown.out m2 hA2).1 (i : Int) (j : Int) ⟨by omega, by omega⟩ ⟨by omega, by omega⟩)
            cases hm : m2 ((i : Int), (j : Int)) with
            | some _ => rfl
            | none => have := hk.1 hm; omega
          rw [his]
          have hM7 := HM.out.call hM6.below
          have hC7 := HCr.out.trans (hM6.below.mono HCr.out.size)
          obtain ⟨a9, c9, hv9⟩ := hM6.intsSlice 0 rfl
          subst hv9
          have HM7 := Lib.hid hM7
          have HC7 := Lib.hid hC7
          clear his hA2 hM6 hM7 hC7
          go_wp2
          go_roundw
          case rel => exact ⟨j + 1, by omega, by go_num, HM7.out, HC7.out⟩
          case measure => simp [intOf]; omega
        · obtain rfl : j = i := by omega
          go_wp2
          go_roundw
          case rel => exact ⟨j + 1, by omega, by go_num, HM.out, HCr.out⟩
          case measure => simp [intOf]; omega
    · obtain rfl : i = h.objs.length := by omega
      go_wp2
      go_loopw [11] (fun iv wr => ∃ i : Nat, i ≤ g.objs.length ∧ iv = .int .i64 i ∧ Mem w.heap.size w wr [ebox w2.heap.size #[.slice a5 h.objs.length c5, .slice a6 h.roots.length c6] 25, ebox w.heap.size #[.slice ao g.objs.length co, .slice ar g.roots.length cr] 25] ∧ Below w2.heap.size w2 wr)
        (fun iv _ => g.objs.length - (intOf iv).toNat)
      case atStart => exact ⟨0, Nat.zero_le _, rfl, HM.out, HCr.out⟩
      case round =>
        clear HM HCr HlI r0 r1
        obtain ⟨i, hi, rfl, hM, hC⟩ := hrel
        obtain ⟨r0, r1⟩ := hM.cells2 0 rfl
        have HM := Lib.hid hM
        have HCr := Lib.hid hC
        clear hM hC
        by_cases hlt : i < g.objs.length
        · go_wp2
          go_loopw [12] (fun jv wx => ∃ j : Nat, j ≤ i ∧ jv = .int .i64 j ∧ Mem w.heap.size w wx [ebox w2.heap.size #[.slice a5 h.objs.length c5, .slice a6 h.roots.length c6] 25, ebox w.heap.size #[.slice ao g.objs.length co, .slice ar g.roots.length cr] 25] ∧ Below w2.heap.size w2 wx)
            (fun jv _ => i - (intOf jv).toNat)
          case atStart => exact ⟨0, Nat.zero_le _, rfl, HM.out, HCr.out⟩
          case round =>
            clear HM HCr r0 r1
            obtain ⟨j, hj, rfl, hM, hC⟩ := hrel
            obtain ⟨r0, r1⟩ := hM.cells2 1 rfl
            have HM := Lib.hid hM
            have HCr := Lib.hid hC
            clear hM hC
            by_cases hlj : j < i
            · go_wp2_with fail
              refine (told_yes g hG _ i j _ (Hg.out.later HM.out.below) (by omega) (by omega)).mono ?_
              rintro e w6 ⟨m2, vw, l2, hA2, _, rfl, _, hM6⟩
              obtain rfl := HA.out.unique hA2
              have hM7 := HM.out.call hM6.below
              have hC7 := HCr.out.trans (hM6.below.mono HCr.out.size)
              obtain ⟨a9, c9, hv9⟩ := hM6.intsSlice 0 rfl
              subst hv9
              obtain ⟨li, hli⟩ := get_some s.2 i (by rw [HL.out.len]; omega)
              obtain ⟨lj, hlj2⟩ := get_some s.2 j (by rw [HL.out.len]; omega)
              obtain ⟨bl, ol, cl, hv, _, hz1, c1, _⟩ := Hl.out.at hC7 hli
              rw [HL.out.len] at hv
              cases hv
              obtain ⟨_, _, _, hv, _, _, c2, _⟩ := Hl.out.at hC7 hlj2
              rw [HL.out.len] at hv
              cases hv
              have hs := Hsame.out i j (by omega) (by omega)
              rw [List.getD_eq_getElem?_getD, List.getD_eq_getElem?_getD, hli, hlj2] at hs
              simp only [Option.getD_some] at hs
              have hdr : ∀ n, Mem w.heap.size w (w6.drewN n) [ebox w2.heap.size #[.slice a5 h.objs.length c5, .slice a6 h.roots.length c6] 25, ebox w.heap.size #[.slice ao g.objs.length co, .slice ar g.roots.length cr] 25] := fun n => hM7.drewN n
              have hdc : ∀ n, Below w2.heap.size w2 (w6.drewN n) := fun n => below_drewN hC7 n
              have Hdr := Lib.hid hdr
              have Hdc := Lib.hid hdc
              have hi0 : (0 : Int) ≤ (i : Int) := by omega
              have hi1 : (i : Int) < (g.objs.length : Int) := by omega
              have hj0 : (0 : Int) ≤ (j : Int) := by omega
              have hj1 : (j : Int) < (g.objs.length : Int) := by omega
              by_cases hll : li = lj
              · have his : (m ((i : Int), (j : Int))).isSome = false := by rw [hs.1 hll]; rfl
                rw [his]
                subst hll
                clear his hs hA2 hM6 hM7 hC7 hli hlj2 hdr hdc
                go_wp2
                go_quiet (fail)
                go_wp2
                go_roundw
                case rel => exact ⟨j + 1, by omega, by go_num, Hdr.out _, Hdc.out _⟩
                case measure => simp [intOf]; omega
              · have his : (m ((i : Int), (j : Int))).isSome = true := by
                  cases hm : m ((i : Int), (j : Int)) with
                  | some _ => rfl
                  | none => exact (hll (hs.2 hm)).elim
                rw [his]
                have hz1 : (li != lj) = true := by simpa using hll
                have hz2 : (li == lj) = false := by simpa using hll
                clear his hs hA2 hM6 hM7 hC7 hli hlj2 hdr hdc
                go_wp2
                go_quiet (fail)
                go_wp2
                go_roundw
                case rel => exact ⟨j + 1, by omega, by go_num, Hdr.out _, Hdc.out _⟩
                case measure => simp [intOf]; omega
            · obtain rfl : j = i := by omega
              go_wp2
              go_roundw
              case rel => exact ⟨j + 1, by omega, by go_num, HM.out, HCr.out⟩
              case measure => simp [intOf]; omega
        · obtain rfl : i = g.objs.length := by omega
          go_wp2_with fail
          refine (share_any h HGh.out _ _ (HC.out.later HCr.out)).mono ?_
          rintro e w7 ⟨vk, vl2, m2, rfl, hA2, hgr, hl, hb7⟩
          rw [(Hown.out m2 hA2).2] at hgr
          have hM8 := HM.out.call hb7
          have hC8 := HCr.out.trans (hb7.mono HCr.out.size)
          have Hgk := Lib.hid hgr
          obtain ⟨vko, vkr, rfl, hko, hkr⟩ := hgr
          obtain ⟨a10, c10, rfl, _⟩ := hko.slice
          obtain ⟨a11, c11, rfl, _⟩ := hkr.slice
          obtain ⟨a12, c12, rfl, _⟩ := hl.slice
          obtain ⟨s0, s1⟩ := hM8.cells2 0 rfl
          have z7 : w2.heap.size < w7.heap.size := (hM8.box 0 rfl).2.1
          have hM9 := hM8.alloc #[.slice a10 h.objs.length c10, .slice a11 h.roots.length c11] 25
          have hC9 := hC8.alloc (o := .cells #[.slice a10 h.objs.length c10, .slice a11 h.roots.length c11] 25) hC8.size
          have HM9 := Lib.hid hM9
          have HC9 := Lib.hid hC9
          clear hM8 hC8 hM9 hC9 hA2 hko hkr hl hb7
          go_wp2_with fail
          refine (graphs_same _ _ h _ (HC.out.later HC9.out) (Hgk.out.later ((Below.refl _ _).alloc (Nat.le_refl _) _))).mono ?_
          rintro e w8 ⟨rfl, hb8⟩
          have hbe := Lib.hid (HM9.out.call hb8).below
          clear hb8
          go_wp2
          go_ret
          exact ⟨rfl, hbe.out⟩

theorem sleast_walk (w : World) (v : Value) (h : ∃ g, IsGraph w v g) :
    Calls Try.prog 3 #[v] w fun e w' => e = .returned (.bool true) ∧ Below w.heap.size w w' := by
  obtain ⟨g, hg⟩ := h
  by_cases hG : Good g
  · exact sleast_good g hG v w hg
  · have hg0 := hg
    obtain ⟨vo, vr, rfl, ho, hr⟩ := hg
    obtain ⟨ao, co, rfl, hlo⟩ := ho.slice
    obtain ⟨ar, cr, rfl, hlr⟩ := hr.slice
    have Hg := Lib.hid hg0
    have HG := Lib.hid hG
    clear ho hr hg0 hG
    have hM0 := (Mem.start w).alloc #[.slice ao g.objs.length co, .slice ar g.roots.length cr] 25
    go_enter Try.func3, Try.ntmps3
    go_wp2_with fail
    refine (good_no _ g _ (Hg.out.later hM0.below) HG.out).mono ?_
    rintro e w1 ⟨rfl, hb⟩
    have hM1 := hM0.call hb
    obtain ⟨p0, p1⟩ := hM1.cells2 0 rfl
    go_wp2_with fail
    refine (refused_yes _ g _ (Hg.out.later hM1.below) HG.out).mono ?_
    rintro e w2 ⟨rfl, hb2⟩
    have hM2 := hM1.call hb2
    go_wp2
    go_ret
    exact ⟨rfl, hM2.below⟩
end Go.Proofs.Ytdmgpiimacnapaa
