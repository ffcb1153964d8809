/- HazardSafe, walked. -/
import Derived.Test.YtgmjhoekpbomiaaZl
namespace Go.Proofs.Ytgmjhoekpbomiaa
open Go.RowKit

theorem guardAt_ways {l : List Deed} {cs : List Int} {j : Nat} {d : Deed} {c : Int} (hd : l[j]? = some d) (hc : cs[j]? = some c) (w : Int) :
    (d.who ≠ w ∧ guardAt l cs w (j + 1) = guardAt l cs w j) ∨ (d.who = w ∧ c ≠ 0 ∧ guardAt l cs w (j + 1) = guardAt l cs w j) ∨ (d.who = w ∧ c = 0 ∧ d.kind = 1 ∧ guardAt l cs w (j + 1) = d.item) ∨
    (d.who = w ∧ c = 0 ∧ d.kind = 2 ∧ guardAt l cs w (j + 1) = -1) ∨ (d.who = w ∧ c = 0 ∧ d.kind ≠ 1 ∧ d.kind ≠ 2 ∧ guardAt l cs w (j + 1) = guardAt l cs w j) := by
  rw [guardAt_succ hd hc]
  by_cases h1 : d.who = w
  · by_cases h2 : c = 0
    · by_cases h3 : d.kind = 1
      · exact .inr (.inr (.inl ⟨h1, h2, h3, if_pos ⟨h1, h2, h3⟩⟩))
      · by_cases h4 : d.kind = 2
        · exact .inr (.inr (.inr (.inl ⟨h1, h2, h4, by rw [if_neg (fun h => h3 h.2.2), if_pos ⟨h1, h2, h4⟩]⟩)))
        · exact .inr (.inr (.inr (.inr ⟨h1, h2, h3, h4, by rw [if_neg (fun h => h3 h.2.2), if_neg (fun h => h4 h.2.2)]⟩)))
    · exact .inr (.inl ⟨h1, h2, by rw [if_neg (fun h => h2 h.2.1), if_neg (fun h => h2 h.2.1)]⟩)
  · exact .inl ⟨h1, by rw [if_neg (fun h => h1 h.1), if_neg (fun h => h1 h.1)]⟩
set_option maxRecDepth 100000 in
set_option maxHeartbeats 2000000 in
theorem hazardSafe_yes (T : Int) (v : Value) (l : List Deed) (w : World) (hl : IsTup 3 encD w v l) :
    Calls Try.prog 3 #[.int .i64 T, v] w fun e w' => e = .returned (.bool true) ∧ Below w.heap.size w w' := by
  have HP := Lib.hid (play_any T v l w hl)
  have Hl := Lib.hid hl
  obtain ⟨al, cl, rfl, hlm⟩ := hl.slice
  clear hl
  go_enter Try.func3, Try.ntmps3
  go_wp2_with fail
  refine HP.out.mono ?_
  rintro e w5 ⟨cv, fv, wv, c, rfl, ⟨ac, nc, cc, rfl⟩, ⟨af, nf, cf, rfl⟩, ⟨aw, nw, cw, rfl⟩, hb5, hcase⟩
  have HB5 := Lib.hid hb5
  clear HP hb5
  rcases hcase with ⟨hc0, _⟩ | ⟨rfl, N, rfl, hN1, hN4, hl100, hC, hF, hW⟩
  · have e1 : (c != 0) = true := by simpa using hc0
    have HX := Lib.hid (HB5.out.alloc HB5.out.size (.cells #[.slice ac nc cc, .slice af nf cf, .slice aw nw cw] 27))
    clear hc0
    go_wp2
    go_ret
    exact ⟨rfl, HX.out⟩
  · have hi := hrun_inv N l l.length (Nat.le_refl _)
    obtain ⟨cs, hcs⟩ : ∃ cs, (hrun N l l.length).2 = cs := ⟨_, rfl⟩
    obtain ⟨s, hs⟩ : ∃ s, (hrun N l l.length).1 = s := ⟨_, rfl⟩
    rw [hcs] at hC hi
    rw [hs] at hF hW hi
    have hf := fr_le hi
    obtain ⟨n, hn⟩ : ∃ n, s.freed.length = n := ⟨_, rfl⟩
    have hcl := hi.len
    obtain ⟨ac', cc', hv, _⟩ := hC.slice
    rw [hcl] at hv
    cases hv
    obtain ⟨af', cf', hv, _⟩ := hF.slice
    rw [hn] at hv
    obtain rfl : n = nf := by injection hv with _ h _; exact h.symm
    cases hv
    obtain ⟨W6, hW6⟩ : ∃ W6, w5.alloc (.cells #[.slice ac l.length cc, .slice af n cf, .slice aw nw cw] 27) = W6 := ⟨_, rfl⟩
    have hb6 : Below w5.heap.size w5 W6 := by rw [← hW6]; exact (Below.refl _ _).alloc (Nat.le_refl _) _
    have b0 : W6.cell? ⟨w5.heap.size, 0, none⟩ = some (.slice ac l.length cc) := by rw [← hW6]; simp
    have b1 : W6.cell? ⟨w5.heap.size, 1, none⟩ = some (.slice af n cf) := by rw [← hW6]; simp
    have b2 : W6.cell? ⟨w5.heap.size, 2, none⟩ = some (.slice aw nw cw) := by rw [← hW6]; simp
    have z6 : w5.heap.size < W6.heap.size := by rw [← hW6]; simp
    obtain ⟨bx, hbx⟩ : ∃ bx, w5.heap.size = bx := ⟨_, rfl⟩
    have HC := Lib.hid (hC.later hb6)
    have HF := Lib.hid (hF.later hb6)
    have HW := Lib.hid (hW.later hb6)
    have HL := Lib.hid ((Hl.out.later HB5.out).later (hb6.mono (Nat.le_refl _)))
    have HB6 := Lib.hid (HB5.out.trans (hb6.mono HB5.out.size))
    have Hi := Lib.hid hi
    have HW6 := Lib.hid hW6
    have HWl : Hid (s.waits.flatten.length ≤ 100) := Lib.hid (by omega)
    have Hn : Hid (n ≤ 100) := Lib.hid (by omega)
    have Hfn := Lib.hid hn
    rw [hbx] at b0 b1 b2 z6
    have Hbx := Lib.hid hbx
    clear hC hF hW hi hf hW6 hb6 hcs hs hn hcl hbx
    go_wp2
    rw [Hbx.out, HW6.out]
    go_loopw [33] (fun i wr => ∃ k : Nat, k ≤ n ∧ i = .int .i64 k ∧ Below W6.heap.size W6 wr) (fun i _ => n - (intOf i).toNat)
    case atStart => exact ⟨0, Nat.zero_le _, rfl, Below.refl _ _⟩
    case round =>
      obtain ⟨k, hk, rfl, hB⟩ := hrel
      by_cases hlt : k < n
      · obtain ⟨x, hx⟩ := get_some s.freed k (by rw [Hfn.out]; exact hlt)
        obtain ⟨i, hil, hxi, ⟨d0, hd0, hk4⟩, hg⟩ := Hi.out.freed x (List.mem_of_getElem? hx)
        obtain ⟨b, off, cap2, hv, _, hn1, hcx⟩ := HF.out.at hB hx
        rw [Hfn.out] at hv
        cases hv
        have x1 := hcx 0 _ rfl
        have x2 := hcx 1 _ rfl
        rw [Nat.add_zero] at x1
        rw [hxi] at x2
        obtain ⟨b', off', cap3, hv, _, hn2, hcd⟩ := HL.out.at hB hd0
        cases hv
        have y1 := hcd 0 _ rfl
        rw [Nat.add_zero, hk4] at y1
        have g1 : decide ((i : Int) < 0) = false := decide_eq_false (by omega)
        have g2 : decide ((l.length : Int) ≤ (i : Int)) = false := decide_eq_false (by omega)
        have HBk := Lib.hid (hB.alloc hB.size (.cells #[.int .i64 x.1, .int .i64 (i : Int)] 32))
        have zk : bx < wr.heap.size := Nat.lt_of_lt_of_le z6 hB.size
        have c0 : wr.cell? ⟨bx, 0, none⟩ = some (.slice ac l.length cc) := (hB.cell (p := ⟨_, _, none⟩) z6).trans b0
        have Hg := Lib.hid hg
        clear hB hcx hcd hd0 hx hg
        go_wp2
        obtain ⟨W7, hW7⟩ : ∃ W7, wr.alloc (.cells #[.int .i64 x.1, .int .i64 (i : Int)] 32) = W7 := ⟨_, rfl⟩
        obtain ⟨bf, hbf⟩ : ∃ bf, wr.heap.size = bf := ⟨_, rfl⟩
        have f0 : W7.cell? ⟨bf, 0, none⟩ = some (.int .i64 x.1) := by rw [← hW7, ← hbf]; simp
        have f1 : W7.cell? ⟨bf, 1, none⟩ = some (.int .i64 (i : Int)) := by rw [← hW7, ← hbf]; simp
        have f2 : bf < W7.heap.size := by rw [← hW7, ← hbf]; simp
        have HB7 := HBk.out
        rw [hW7] at HB7 ⊢
        rw [hbf]
        have HB7 := Lib.hid HB7
        have c7 : W7.cell? ⟨bx, 0, none⟩ = some (.slice ac l.length cc) := (HB7.out.cell (p := ⟨_, _, none⟩) z6).trans b0
        have z7 : bx < W7.heap.size := Nat.lt_of_lt_of_le z6 HB7.out.size
        clear HBk hW7 hbf x1 x2 y1 g1 g2 zk c0
        go_loopw [9] (fun i wr => ∃ k : Nat, k ≤ N ∧ i = .int .i64 k ∧ W7 = wr) (fun i _ => N - (intOf i).toNat)
        case atStart => exact ⟨0, Nat.zero_le _, rfl, rfl⟩
        case round =>
          obtain ⟨t, ht, rfl, rfl⟩ := hrel
          by_cases hlt2 : t < N
          · have hgt := Hg.out t hlt2
            go_wp2
            go_loopw [10, 11] (fun g i2 wr => ∃ j : Nat, j ≤ i ∧ i2 = .int .i64 j ∧ g = .int .i64 (guardAt l cs t j) ∧ W7 = wr) (fun _ i2 _ => i - (intOf i2).toNat)
            case atStart => exact ⟨0, Nat.zero_le _, rfl, rfl, rfl⟩
            case round =>
              obtain ⟨j, hj, rfl, rfl, rfl⟩ := hrel
              by_cases hlt3 : j < i
              · obtain ⟨d, hd⟩ := get_some l j (by omega)
                obtain ⟨c, hc⟩ := get_some cs j (by rw [Hi.out.len]; omega)
                obtain ⟨b3, off3, cap5, hv, _, hn5, hcd⟩ := HL.out.at HB7.out hd
                cases hv
                have y1 := hcd 0 _ rfl
                have y2 := hcd 1 _ rfl
                have y3 := hcd 2 _ rfl
                rw [Nat.add_zero] at y1
                obtain ⟨b4, off4, cap6, hv, _, hn6, y4, _⟩ := HC.out.at HB7.out hc
                rw [Hi.out.len] at hv
                cases hv
                have hways := guardAt_ways hd hc (t : Int)
                clear hcd hd hc
                rcases hways with ⟨h1, h2⟩ | ⟨h1, h2, h3⟩ | ⟨h1, h2, h3, h4⟩ | ⟨h1, h2, h3, h4⟩ | ⟨h1, h2, h3, h4, h5⟩
                · have e1 : (d.who == (t : Int)) = false := by simpa using h1
                  have HE := Lib.hid h2
                  clear h1 h2
                  go_wp2
                  go_roundw
                  case rel => exact ⟨j + 1, by omega, by go_num, by rw [HE.out], trivial⟩
                  case measure => simp [intOf]; omega
                · have e1 : (d.who == (t : Int)) = true := by simpa using h1
                  have e2 : (c == 0) = false := by simpa using h2
                  have HE := Lib.hid h3
                  clear h1 h2 h3
                  go_wp2
                  go_roundw
                  case rel => exact ⟨j + 1, by omega, by go_num, by rw [HE.out], trivial⟩
                  case measure => simp [intOf]; omega
                · have e1 : (d.who == (t : Int)) = true := by simpa using h1
                  have e2 : (c == 0) = true := by simpa using h2
                  have e3 : (d.kind == 1) = true := by simpa using h3
                  have e4 : (d.kind == 2) = false := by rw [h3]; rfl
                  have HE := Lib.hid h4
                  clear h1 h2 h3 h4
                  go_wp2
                  go_roundw
                  case rel => exact ⟨j + 1, by omega, by go_num, by rw [HE.out], trivial⟩
                  case measure => simp [intOf]; omega
                · have e1 : (d.who == (t : Int)) = true := by simpa using h1
                  have e2 : (c == 0) = true := by simpa using h2
                  have e3 : (d.kind == 1) = false := by rw [h3]; rfl
                  have e4 : (d.kind == 2) = true := by simpa using h3
                  have HE := Lib.hid h4
                  clear h1 h2 h3 h4
                  go_wp2
                  go_roundw
                  case rel => exact ⟨j + 1, by omega, by go_num, by rw [HE.out], trivial⟩
                  case measure => simp [intOf]; omega
                · have e1 : (d.who == (t : Int)) = true := by simpa using h1
                  have e2 : (c == 0) = true := by simpa using h2
                  have e3 : (d.kind == 1) = false := by simpa using h3
                  have e4 : (d.kind == 2) = false := by simpa using h4
                  have HE := Lib.hid h5
                  clear h1 h2 h3 h4 h5
                  go_wp2
                  go_roundw
                  case rel => exact ⟨j + 1, by omega, by go_num, by rw [HE.out], trivial⟩
                  case measure => simp [intOf]; omega
              · obtain rfl : j = i := by omega
                have e1 : (guardAt l cs (t : Int) j == x.1) = false := by simpa using hgt
                clear hgt
                go_wp2
                go_roundw
                case rel => exact ⟨t + 1, by omega, by go_num, trivial⟩
                case measure => simp [intOf]; omega
          · obtain rfl : t = N := by omega
            have hn100 := Hn.out
            go_wp2
            go_roundw
            case rel => exact ⟨k + 1, by omega, by go_num, HB7.out⟩
            case measure => simp [intOf]; omega
      · obtain rfl : k = n := by omega
        have zk : bx < wr.heap.size := Nat.lt_of_lt_of_le z6 hB.size
        have c0 : wr.cell? ⟨bx, 0, none⟩ = some (.slice ac l.length cc) := (hB.cell (p := ⟨_, _, none⟩) z6).trans b0
        have c1 : wr.cell? ⟨bx, 1, none⟩ = some (.slice af k cf) := (hB.cell (p := ⟨_, _, none⟩) z6).trans b1
        have c2 : wr.cell? ⟨bx, 2, none⟩ = some (.slice aw nw cw) := (hB.cell (p := ⟨_, _, none⟩) z6).trans b2
        have hBd : Below W6.heap.size W6 wr.drew := hB.drew
        have h64 : ∀ x ∈ retiredTo l cs 3 l.length, i64ok x := fun x hx => by have := Hi.out.gone x hx; unfold i64ok; omega
        have HR := Lib.hid (retired_any _ _ l cs 3 wr.drew (HL.out.later hBd) (HC.out.later hBd) Hi.out.len.symm (by omega) h64)
        have HBd := Lib.hid hBd
        have H64 := Lib.hid h64
        clear hB hBd h64 b0 b1 b2
        go_wp2
        go_region_held3 (fun X => X.cell? ⟨bx, 0, none⟩ = some (.slice ac l.length cc) ∧ X.cell? ⟨bx, 1, none⟩ = some (.slice af k cf) ∧ X.cell? ⟨bx, 2, none⟩ = some (.slice aw nw cw))
          (first | exact ⟨by simpa using c0, by simpa using c1, by simpa using c2⟩ | exact ⟨q0, q1, q2⟩ | exact ⟨q3, q4, q5⟩)
          (first
            | (go_at_call 14
               refine HR.out.mono ?_
               rintro e w8 ⟨r, rfl, hr, hb8⟩
               have q0 : w8.cell? ⟨bx, 0, none⟩ = some (.slice ac l.length cc) := by rw [hb8.cell (p := ⟨_, _, none⟩) (by simpa using zk)]; simpa using c0
               have q1 : w8.cell? ⟨bx, 1, none⟩ = some (.slice af k cf) := by rw [hb8.cell (p := ⟨_, _, none⟩) (by simpa using zk)]; simpa using c1
               have q2 : w8.cell? ⟨bx, 2, none⟩ = some (.slice aw nw cw) := by rw [hb8.cell (p := ⟨_, _, none⟩) (by simpa using zk)]; simpa using c2
               have z8 : bx < w8.heap.size := Nat.lt_of_lt_of_le (by simpa using zk) hb8.size
               have HB8 := Lib.hid (HBd.out.trans (hb8.mono HBd.out.size))
               have HF8 := Lib.hid (fates_any r (.slice ac l.length cc) _ _ (retiredTo l cs 3 l.length) _ _ w8 hr (HF.out.later HB8.out) (HW.out.later HB8.out) ⟨_, _, _, rfl⟩ (by rw [Hfn.out]; have := Hn.out; omega) (by have := HWl.out; omega) Hi.out.perm H64.out)
               clear hr hb8)
            | (go_at_call 13
               refine HF8.out.mono ?_
               rintro e w9 ⟨rfl, hb9⟩
               have q3 := (hb9.cell (p := ⟨_, 0, none⟩) z8).trans q0
               have q4 := (hb9.cell (p := ⟨_, 1, none⟩) z8).trans q1
               have q5 := (hb9.cell (p := ⟨_, 2, none⟩) z8).trans q2
               have HB9 := Lib.hid (HB6.out.trans ((HB8.out.trans (hb9.mono HB8.out.size)).mono HB6.out.size))
               clear hb9))
        all_goals
          go_wp2
          go_ret
          exact ⟨rfl, HB9.out⟩
end Go.Proofs.Ytgmjhoekpbomiaa
