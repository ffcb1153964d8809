/- EpochSafe, walked. -/
import Derived.Test.YtgmjhoekpbomiaaYm
import Derived.Test.YtgmjhoekpbomiaaZm
import Derived.Test.YtgmjhoekpbomiaaYg
namespace Go.Proofs.Ytgmjhoekpbomiaa
open Go.RowKit

set_option maxRecDepth 100000 in
set_option maxHeartbeats 4000000 in
theorem epochSafe_yes (T : Int) (v : Value) (l : List Deed) (w : World) (hl : IsTup 3 encD w v l) (h64 : DeedsOk l) :
    Calls Try.prog 5 #[.int .i64 T, v] w fun e w' => e = .returned (.bool true) ∧ Below w.heap.size w w' := by
  have HP := Lib.hid (eplay_any T v l w hl h64)
  have Hl := Lib.hid hl
  have H64 := Lib.hid h64
  obtain ⟨al, cl, rfl, hlm⟩ := hl.slice
  clear hl h64
  go_enter Try.func5, Try.ntmps5
  go_wp2_with fail
  refine HP.out.mono ?_
  rintro e w5 ⟨cv, fv, wv, c, rfl, ⟨ac, nc, cc, rfl⟩, ⟨af, nf, cf, rfl⟩, ⟨aw, nw, cw, rfl⟩, hb5, hcase⟩
  have HB5 := Lib.hid hb5
  clear HP hb5
  rcases hcase with ⟨hc0, _⟩ | ⟨rfl, N, rfl, hN1, hN4, hl100, hC, hF, hW⟩
  · have e1 : (c != 0) = true := by simpa using hc0
    have HX := Lib.hid (HB5.out.alloc HB5.out.size (.cells #[.slice ac nc cc, .slice af nf cf, .slice aw nw cw] 27))
    clear hc0
    go_wp2
    go_ret
    exact ⟨rfl, HX.out⟩
  · have hi := est_inv N l l.length (Nat.le_refl _)
    have Hsafe : Hid (∀ (i : Nat) (d : Deed), l[i]? = some d → d.kind = 3 → (ecodes N l l.length)[i]? = some 0 → ∀ x ∈ (est N l l.length).freed, x.1 = d.item → ∃ b : Nat, x.2 = b ∧ b < l.length ∧ (2 ≤ l.countP (retOf d.item) ∨ ∀ w ∈ insideTo l (ecodes N l l.length) i, leftC l (ecodes N l l.length) w i b)) := Lib.hid (by
      intro i d hd hk hc x hx hxi
      obtain ⟨b, h1, h2, h3⟩ := epoch_safe hd hk hc hx hxi
      refine ⟨b, h1, h2, h3.imp id fun h w hw => leftC_of (h w hw) (by omega)⟩)
    obtain ⟨cs, hcs⟩ : ∃ cs, ecodes N l l.length = cs := ⟨_, rfl⟩
    obtain ⟨s, hs⟩ : ∃ s, est N l l.length = s := ⟨_, rfl⟩
    have hcl : cs.length = l.length := by rw [← hcs, ecodes_len]
    have hsz := hi.sizes
    have hperm := hi.perm
    rw [hcs] at hC Hsafe hperm
    rw [hs] at hF hW Hsafe hsz hperm
    obtain ⟨n, hn⟩ : ∃ n, s.freed.length = n := ⟨_, rfl⟩
    obtain ⟨ac', cc', hv, _⟩ := hC.slice
    rw [hcl] at hv
    cases hv
    obtain ⟨af', cf', hv, _⟩ := hF.slice
    rw [hn] at hv
    obtain rfl : n = nf := by injection hv with _ h _; exact h.symm
    cases hv
    obtain ⟨W6, hW6⟩ : ∃ W6, w5.alloc (.cells #[.slice ac l.length cc, .slice af n cf, .slice aw nw cw] 27) = W6 := ⟨_, rfl⟩
    have hb6 : Below w5.heap.size w5 W6 := by rw [← hW6]; exact (Below.refl _ _).alloc (Nat.le_refl _) _
    have b0 : W6.cell? ⟨w5.heap.size, 0, none⟩ = some (.slice ac l.length cc) := by rw [← hW6]; simp
    have b1 : W6.cell? ⟨w5.heap.size, 1, none⟩ = some (.slice af n cf) := by rw [← hW6]; simp
    have b2 : W6.cell? ⟨w5.heap.size, 2, none⟩ = some (.slice aw nw cw) := by rw [← hW6]; simp
    have z6 : w5.heap.size < W6.heap.size := by rw [← hW6]; simp
    obtain ⟨bx, hbx⟩ : ∃ bx, w5.heap.size = bx := ⟨_, rfl⟩
    have HC := Lib.hid (hC.later hb6)
    have HF := Lib.hid (hF.later hb6)
    have HW := Lib.hid (hW.later hb6)
    have HL := Lib.hid ((Hl.out.later HB5.out).later (hb6.mono (Nat.le_refl _)))
    have HB6 := Lib.hid (HB5.out.trans (hb6.mono HB5.out.size))
    have HW6 := Lib.hid hW6
    have Hcl := Lib.hid hcl
    have HWl : Hid ((s.waits.map (·.1)).length ≤ 1000) := Lib.hid (by rw [List.length_map]; omega)
    have Hperm := Lib.hid hperm
    have Hn : Hid (n ≤ 100) := Lib.hid (by omega)
    have Hfn := Lib.hid hn
    rw [hbx] at b0 b1 b2 z6
    have Hbx := Lib.hid hbx
    clear hC hF hW hi hsz hperm hW6 hb6 hcs hs hn hcl hbx
    go_wp2
    rw [Hbx.out, HW6.out]
    go_loopw [33] (fun i wr => ∃ k : Nat, k ≤ l.length ∧ i = .int .i64 k ∧ Below W6.heap.size W6 wr) (fun i _ => l.length - (intOf i).toNat)
    case atStart => exact ⟨0, Nat.zero_le _, rfl, Below.refl _ _⟩
    case round =>
      obtain ⟨k, hk, rfl, hB⟩ := hrel
      by_cases hlt : k < l.length
      · obtain ⟨d, hd⟩ := get_some l k hlt
        obtain ⟨c, hc⟩ := get_some cs k (by rw [Hcl.out]; exact hlt)
        obtain ⟨b', off', cap3, hv, _, hn2, hcd⟩ := HL.out.at hB hd
        cases hv
        have y0 := hcd 0 _ rfl
        have y1 := hcd 1 _ rfl
        have y2 := hcd 2 _ rfl
        rw [Nat.add_zero] at y0
        obtain ⟨b4, off4, cap6, hv, _, hn6, y4, _⟩ := HC.out.at hB hc
        rw [Hcl.out] at hv
        cases hv
        have HBk := Lib.hid (hB.alloc hB.size (.cells #[.int .i64 d.kind, .int .i64 d.who, .int .i64 d.item] 34))
        have zk : bx < wr.heap.size := Nat.lt_of_lt_of_le z6 hB.size
        have c0 : wr.cell? ⟨bx, 0, none⟩ = some (.slice (some ⟨b4, off4, none⟩) l.length cc) := (hB.cell (p := ⟨_, _, none⟩) z6).trans b0
        have c1 : wr.cell? ⟨bx, 1, none⟩ = some (.slice af n cf) := (hB.cell (p := ⟨_, _, none⟩) z6).trans b1
        have Hd := Lib.hid hd
        have Hc := Lib.hid hc
        clear hB hcd hd hc
        by_cases hk3 : d.kind = 3
        · have q1 : (d.kind != 3) = false := by simpa using hk3
          by_cases hc0 : c = 0
          · have q2 : (c != 0) = false := by simpa using hc0
            have Hs : Hid (∀ x ∈ s.freed, x.1 = d.item → ∃ b : Nat, x.2 = b ∧ b < l.length ∧ (2 ≤ l.countP (retOf d.item) ∨ ∀ w ∈ insideTo l cs k, leftC l cs w k b)) := Lib.hid (Hsafe.out k d Hd.out hk3 (by rw [Hc.out, hc0]))
            clear hk3 hc0
            go_wp2
            obtain ⟨W7, hW7⟩ : ∃ W7, wr.alloc (.cells #[.int .i64 d.kind, .int .i64 d.who, .int .i64 d.item] 34) = W7 := ⟨_, rfl⟩
            obtain ⟨bd, hbd⟩ : ∃ bd, wr.heap.size = bd := ⟨_, rfl⟩
            have f2 : W7.cell? ⟨bd, 2, none⟩ = some (.int .i64 d.item) := by rw [← hW7, ← hbd]; simp
            have f3 : bd < W7.heap.size := by rw [← hW7, ← hbd]; simp
            have HB7 := HBk.out
            rw [hW7] at HB7 ⊢
            rw [hbd]
            have c7 : W7.cell? ⟨bx, 0, none⟩ = some (.slice (some ⟨b4, off4, none⟩) l.length cc) := (HB7.cell (p := ⟨_, _, none⟩) z6).trans b0
            have z7 : bx < W7.heap.size := Nat.lt_of_lt_of_le z6 HB7.size
            have HB7 := Lib.hid HB7
            clear HBk hW7 hbd y0 y1 y2 y4 q1 q2 zk c0 c1
            go_loopw [52] (fun i wr => ∃ j : Nat, j ≤ n ∧ i = .int .i64 j ∧ Below W7.heap.size W7 wr) (fun i _ => n - (intOf i).toNat)
            case atStart => exact ⟨0, Nat.zero_le _, rfl, Below.refl _ _⟩
            case round =>
              obtain ⟨j, hj, rfl, hB⟩ := hrel
              by_cases hlt2 : j < n
              · obtain ⟨x, hx⟩ := get_some s.freed j (by rw [Hfn.out]; exact hlt2)
                obtain ⟨b, off, cap2, hv, _, hn1, hcx⟩ := HF.out.at (HB7.out.trans (hB.mono HB7.out.size)) hx
                rw [Hfn.out] at hv
                cases hv
                have x1 := hcx 0 _ rfl
                have x2 := hcx 1 _ rfl
                rw [Nat.add_zero] at x1
                have g2 : wr.cell? ⟨bd, 2, none⟩ = some (.int .i64 d.item) := (hB.cell (p := ⟨_, _, none⟩) f3).trans f2
                have g3 : bd < wr.heap.size := Nat.lt_of_lt_of_le f3 hB.size
                have c8 : wr.cell? ⟨bx, 0, none⟩ = some (.slice (some ⟨b4, off4, none⟩) l.length cc) := (hB.cell (p := ⟨_, _, none⟩) z7).trans c7
                have z8 : bx < wr.heap.size := Nat.lt_of_lt_of_le z7 hB.size
                have HBx := Lib.hid (hB.alloc hB.size (.cells #[.int .i64 x.1, .int .i64 x.2] 32))
                have Hxm := Lib.hid (List.mem_of_getElem? hx)
                have hn100 := Hn.out
                clear hB hcx hx
                by_cases hxi : x.1 = d.item
                · have q1 : (x.1 != d.item) = false := by simpa using hxi
                  obtain ⟨b8, hb8, hbl, hor⟩ := Hs.out x Hxm.out hxi
                  rw [hb8] at x2 HBx
                  have Hor := Lib.hid hor
                  clear hxi hor
                  by_cases hle : b8 ≤ k
                  · go_wp2
                    go_roundw
                    case rel => exact ⟨j + 1, by omega, by go_num, HBx.out⟩
                    case measure => simp [intOf]; omega
                  · have hbl2 : ¬ l.length ≤ b8 := by omega
                    have hBa := (HB7.out.trans (HBx.out.mono HB7.out.size))
                    have HI := Lib.hid (insideAt_any _ _ l cs k _ (HL.out.later hBa) (HC.out.later hBa) Hcl.out.symm (by omega) (by omega) (fun d hd => (H64.out d hd).1))
                    clear hBa
                    go_wp2_with fail
                    refine HI.out.mono ?_
                    rintro e w9 ⟨r, rfl, hr, hb9⟩
                    obtain ⟨M, hM⟩ : ∃ M, (insideTo l cs k).length = M := ⟨_, rfl⟩
                    obtain ⟨ar, cr, rfl, _⟩ := hr.slice
                    rw [hM]
                    have hr := hr
                    have hMk : M ≤ k := by rw [← hM]; exact insideTo_le l cs k
                    have hb9' := (Below.refl wr.heap.size wr).alloc (Nat.le_refl _) (.cells #[.int .i64 x.1, .int .i64 (b8 : Int)] 32) |>.trans (hb9.mono (by simp))
                    have g4 : w9.cell? ⟨bd, 2, none⟩ = some (.int .i64 d.item) := (hb9'.cell (p := ⟨_, _, none⟩) g3).trans g2
                    have g5 : bd < w9.heap.size := Nat.lt_of_lt_of_le g3 hb9'.size
                    have c9 : w9.cell? ⟨bx, 0, none⟩ = some (.slice (some ⟨b4, off4, none⟩) l.length cc) := (hb9'.cell (p := ⟨_, _, none⟩) z8).trans c8
                    have z9 : bx < w9.heap.size := Nat.lt_of_lt_of_le z8 hb9'.size
                    have e1 : w9.cell? ⟨wr.heap.size, 1, none⟩ = some (.int .i64 (b8 : Int)) := by rw [hb9.cell (p := ⟨_, _, none⟩) (by simp)]; simp
                    have e2 : wr.heap.size < w9.heap.size := by have := hb9.size; simp at this; omega
                    obtain ⟨bf, hbf⟩ : ∃ bf, wr.heap.size = bf := ⟨_, rfl⟩
                    rw [hbf] at e1 e2 ⊢
                    have HB9 := Lib.hid (HBx.out.trans (hb9.mono HBx.out.size))
                    have HMm := Lib.hid hM
                    have Hr := Lib.hid hr
                    clear hb9 hb9' hr hM HI HBx x1 x2 g2 g3 c8 z8 hbf hn1
                    go_wp2
                    go_loopw [78] (fun i wr3 => ∃ m : Nat, m ≤ M ∧ i = .int .i64 m ∧ Below w9.heap.size w9 wr3) (fun i _ => M - (intOf i).toNat)
                    case atStart => exact ⟨0, Nat.zero_le _, rfl, Below.refl _ _⟩
                    case round =>
                      obtain ⟨m, hm, rfl, hB⟩ := hrel
                      have hBw := HB7.out.trans ((HB9.out.trans (hB.mono HB9.out.size)).mono HB7.out.size)
                      by_cases hlt3 : m < M
                      · obtain ⟨y, hy⟩ := get_some (insideTo l cs k) m (by rw [HMm.out]; exact hlt3)
                        obtain ⟨b5, off5, cap7, hv, _, hn7, y5, _⟩ := Hr.out.at hB hy
                        rw [HMm.out] at hv
                        cases hv
                        have d1 : wr.cell? ⟨bf, 1, none⟩ = some (.int .i64 (b8 : Int)) := (hB.cell (p := ⟨_, _, none⟩) e2).trans e1
                        have d2 : bf < wr.heap.size := Nat.lt_of_lt_of_le e2 hB.size
                        have d3 : wr.cell? ⟨bx, 0, none⟩ = some (.slice (some ⟨b4, off4, none⟩) l.length cc) := (hB.cell (p := ⟨_, _, none⟩) z9).trans c9
                        have d4 : bx < wr.heap.size := Nat.lt_of_lt_of_le z9 hB.size
                        have d5 : wr.cell? ⟨bd, 2, none⟩ = some (.int .i64 d.item) := (hB.cell (p := ⟨_, _, none⟩) g5).trans g4
                        have d6 : bd < wr.heap.size := Nat.lt_of_lt_of_le g5 hB.size
                        have HG := Lib.hid (gone_any _ _ l cs y k b8 wr (HL.out.later hBw) (HC.out.later hBw) Hcl.out.symm (by omega))
                        have HB := Lib.hid hB
                        have Hym := Lib.hid (List.mem_of_getElem? hy)
                        clear hB hy hBw
                        go_wp2_with fail
                        refine HG.out.mono ?_
                        rintro e w10 ⟨bb, rfl, himp, hb10⟩
                        cases bb with
                        | true =>
                          have HB10 := Lib.hid (HB.out.trans (hb10.mono HB.out.size))
                          clear himp hb10 HG
                          go_wp2
                          go_roundw
                          case rel => exact ⟨m + 1, by omega, by go_num, HB10.out⟩
                          case measure => simp [intOf]; omega
                        | false =>
                          have h2 : 2 ≤ l.countP (retOf d.item) := by
                            rcases Hor.out with h | h
                            · exact h
                            · exact absurd (himp (h y Hym.out)) (by decide)
                          have hB10 := HB.out.trans (hb10.mono HB.out.size)
                          have hBw := HB7.out.trans ((HB9.out.trans (hB10.mono HB9.out.size)).mono HB7.out.size)
                          have hA := again_any _ l d.item w10 (HL.out.later hBw) (by omega)
                          rw [decide_eq_true h2] at hA
                          have HA := Lib.hid hA
                          have HBw := Lib.hid (HB6.out.trans (hBw.mono HB6.out.size))
                          have d7 : w10.cell? ⟨bd, 2, none⟩ = some (.int .i64 d.item) := (hb10.cell (p := ⟨_, _, none⟩) d6).trans d5
                          have d8 : bd < w10.heap.size := Nat.lt_of_lt_of_le d6 hb10.size
                          clear himp hb10 HG h2 hB10 hBw hA d1 d2 d3 d4 d5 d6 y5
                          go_wp2_with fail
                          refine HA.out.mono ?_
                          rintro e w11 ⟨rfl, hb11⟩
                          have HB11 := Lib.hid (HBw.out.trans (hb11.mono HBw.out.size))
                          clear hb11
                          go_wp2
                          go_ret
                          exact ⟨rfl, HB11.out⟩
                      · obtain rfl : m = M := by omega
                        have HB := Lib.hid (HB9.out.trans (hB.mono HB9.out.size))
                        clear hB hBw
                        go_wp2
                        go_roundw
                        case rel => exact ⟨j + 1, by omega, by go_num, HB.out⟩
                        case measure => simp [intOf]; omega
                · have q1 : (x.1 != d.item) = true := by simpa using hxi
                  clear hxi
                  go_wp2
                  go_roundw
                  case rel => exact ⟨j + 1, by omega, by go_num, HBx.out⟩
                  case measure => simp [intOf]; omega
              · obtain rfl : j = n := by omega
                have hn100 := Hn.out
                go_wp2
                go_roundw
                case rel => exact ⟨k + 1, by omega, by go_num, HB7.out.trans (hB.mono HB7.out.size)⟩
                case measure => simp [intOf]; omega
          · have q2 : (c != 0) = true := by simpa using hc0
            clear hk3 hc0
            go_wp2
            go_roundw
            case rel => exact ⟨k + 1, by omega, by go_num, HBk.out⟩
            case measure => simp [intOf]; omega
        · have q1 : (d.kind != 3) = true := by simpa using hk3
          clear hk3
          go_wp2
          go_roundw
          case rel => exact ⟨k + 1, by omega, by go_num, HBk.out⟩
          case measure => simp [intOf]; omega
      · obtain rfl : k = l.length := by omega
        have zk : bx < wr.heap.size := Nat.lt_of_lt_of_le z6 hB.size
        have c0 : wr.cell? ⟨bx, 0, none⟩ = some (.slice ac l.length cc) := (hB.cell (p := ⟨_, _, none⟩) z6).trans b0
        have c1 : wr.cell? ⟨bx, 1, none⟩ = some (.slice af n cf) := (hB.cell (p := ⟨_, _, none⟩) z6).trans b1
        have c2 : wr.cell? ⟨bx, 2, none⟩ = some (.slice aw nw cw) := (hB.cell (p := ⟨_, _, none⟩) z6).trans b2
        have hBd : Below W6.heap.size W6 wr.drew := hB.drew
        have h64 : ∀ x ∈ retiredTo l cs 3 l.length, i64ok x := fun x hx => by obtain ⟨d, hd, rfl⟩ := retiredTo_sub _ _ _ _ x hx; exact (H64.out d hd).2
        have HR := Lib.hid (retired_any _ _ l cs 3 wr.drew (HL.out.later hBd) (HC.out.later hBd) Hcl.out.symm (by omega) h64)
        have HBd := Lib.hid hBd
        have H64 := Lib.hid h64
        clear hB hBd h64 b0 b1 b2
        go_wp2
        go_region_held3 (fun X => X.cell? ⟨bx, 0, none⟩ = some (.slice ac l.length cc) ∧ X.cell? ⟨bx, 1, none⟩ = some (.slice af n cf) ∧ X.cell? ⟨bx, 2, none⟩ = some (.slice aw nw cw))
          (first | exact ⟨by simpa using c0, by simpa using c1, by simpa using c2⟩ | exact ⟨q0, q1, q2⟩ | exact ⟨q3, q4, q5⟩)
          (first
            | (go_at_call 14
               refine HR.out.mono ?_
               rintro e w8 ⟨r, rfl, hr, hb8⟩
               have q0 : w8.cell? ⟨bx, 0, none⟩ = some (.slice ac l.length cc) := by rw [hb8.cell (p := ⟨_, _, none⟩) (by simpa using zk)]; simpa using c0
               have q1 : w8.cell? ⟨bx, 1, none⟩ = some (.slice af n cf) := by rw [hb8.cell (p := ⟨_, _, none⟩) (by simpa using zk)]; simpa using c1
               have q2 : w8.cell? ⟨bx, 2, none⟩ = some (.slice aw nw cw) := by rw [hb8.cell (p := ⟨_, _, none⟩) (by simpa using zk)]; simpa using c2
               have z8 : bx < w8.heap.size := Nat.lt_of_lt_of_le (by simpa using zk) hb8.size
               have HB8 := Lib.hid (HBd.out.trans (hb8.mono HBd.out.size))
               have HF8 := Lib.hid (fates_any r (.slice ac l.length cc) _ _ (retiredTo l cs 3 l.length) _ _ w8 hr (HF.out.later HB8.out) (HW.out.later HB8.out) ⟨_, _, _, rfl⟩ (by rw [Hfn.out]; have := Hn.out; omega) (by have := HWl.out; omega) Hperm.out H64.out)
               clear hr hb8)
            | (go_at_call 13
               refine HF8.out.mono ?_
               rintro e w9 ⟨rfl, hb9⟩
               have q3 := (hb9.cell (p := ⟨_, 0, none⟩) z8).trans q0
               have q4 := (hb9.cell (p := ⟨_, 1, none⟩) z8).trans q1
               have q5 := (hb9.cell (p := ⟨_, 2, none⟩) z8).trans q2
               have HB9 := Lib.hid (HB6.out.trans ((HB8.out.trans (hb9.mono HB8.out.size)).mono HB6.out.size))
               clear hb9))
        all_goals
          go_wp2
          go_ret
          exact ⟨rfl, HB9.out⟩
end Go.Proofs.Ytgmjhoekpbomiaa
