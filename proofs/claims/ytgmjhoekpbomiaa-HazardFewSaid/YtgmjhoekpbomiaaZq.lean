/- HazardFew, walked. -/
import Derived.Test.YtgmjhoekpbomiaaZl
import Derived.Test.YtgmjhoekpbomiaaZp
import Derived.Deep.DrawnRows
namespace Go.Proofs.Ytgmjhoekpbomiaa
open Go.RowKit

theorem elemDeeds : Elem Try.prog 22 34 3 24 (.agg #[.int .i64 0, .int .i64 0, .int .i64 0]) := ⟨by kernel_rfl, info_parts (by kernel_rfl), rfl, by decide⟩
set_option maxRecDepth 100000 in
set_option maxHeartbeats 40000000 in
theorem hazardFew_clr (T : Int) (v : Value) (l : List Deed) (w : World) (hl : IsTup 3 encD w v l) (hsz : l.length ≤ 17592186044416) :
    Calls Try.prog 4 #[.int .i64 T, v, .bool true] w fun e w' => e = .returned (.bool true) ∧ Below w.heap.size w w' := by
  have Hl := Lib.hid hl
  obtain ⟨al, cl, rfl, hlm⟩ := hl.slice
  clear hl
  by_cases hT : T < 1
  · have q1 : decide (T < 1) = true := decide_eq_true hT
    go_enter Try.func4, Try.ntmps4
    go_wp2
    go_ret
    exact ⟨rfl, Below.refl _ _⟩
  by_cases hT4 : T > 4
  · have q1 : decide (T < 1) = false := decide_eq_false hT
    have q2 : decide (T > 4) = true := decide_eq_true hT4
    go_enter Try.func4, Try.ntmps4
    go_wp2
    go_ret
    exact ⟨rfl, Below.refl _ _⟩
  have q1 : decide (T < 1) = false := decide_eq_false hT
  have q2 : decide (T > 4) = false := decide_eq_false hT4
  obtain ⟨N, rfl⟩ : ∃ N : Nat, T = N := ⟨T.toNat, by omega⟩
  by_cases hn : l.length ≤ 92
  · have q3 : decide ((l.length : Int) + 8 > 100) = false := decide_eq_false (by omega)
    go_enter Try.func4, Try.ntmps4
    go_wp2
    clear q1 q2 q3
    go_loopw [7, 28] (fun r i wr => ∃ k : Nat, k ≤ l.length ∧ i = .int .i64 k ∧ Mem w.heap.size w wr [rowT 34 3 encD r (l.take k)]) (fun _ i _ => l.length - (intOf i).toNat)
    case atStart => exact ⟨0, Nat.zero_le _, rfl, (Mem.start w).nilT _ _ _⟩
    case round =>
      obtain ⟨k, hk, rfl, hM⟩ := hrel
      by_cases hlt : k < l.length
      · obtain ⟨d, hd⟩ := get_some _ _ hlt
        obtain ⟨bl, ol, cl2, hv, _, z1, hc⟩ := Hl.out.at hM.below hd
        cases hv
        have d0 := hc 0 _ rfl
        have d1 := hc 1 _ rfl
        have d2 := hc 2 _ rfl
        rw [Nat.add_zero] at d0
        have HS := Lib.hid (take_succ_some _ _ _ hd)
        have HM := Lib.hid (hM.alloc_ (.cells #[.int .i64 d.kind, .int .i64 d.who, .int .i64 d.item] 34))
        have hln : (l.take k).length ≤ 1000000 := by rw [List.length_take]; omega
        clear hM hc hd
        go_wp2_with (at_builtin; refine Mem.wp_appT elemDeeds rfl (.tmp 32) (.tmp 34) rfl HM.out 0 rfl rfl _ d #[.int .i64 d.kind, .int .i64 d.who, .int .i64 d.item] rfl _ _ rfl (by simp) rfl rfl (by decide) hln ?_; intro ad n1 cp w1 hn1 hM3 hs1 hk1 ha1)
        go_roundw
        case rel => exact ⟨k + 1, by omega, by go_num, hM3.cast (by rw [HS.out]; rfl)⟩
        case measure => simp [intOf]; omega
      · obtain rfl : k = l.length := by omega
        rw [List.take_length] at hM
        have HM0 := Lib.hid hM
        clear hM
        go_wp2
        go_loopw [7, 10] (fun r i wr => ∃ k : Nat, k ≤ N ∧ i = .int .i64 k ∧ Mem w.heap.size w wr [rowT 34 3 encD r (l ++ clearsTo k)]) (fun _ i _ => N - (intOf i).toNat)
        case atStart => exact ⟨0, Nat.zero_le _, rfl, HM0.out.cast (by simp [clearsTo])⟩
        case round =>
          clear HM0
          obtain ⟨k, hk, rfl, hM⟩ := hrel
          by_cases hlt : k < N
          · have HM := Lib.hid hM
            have hln : (l ++ clearsTo k).length ≤ 1000000 := by rw [List.length_append, clearsTo_len]; omega
            clear hM
            go_wp2_with (at_builtin; refine Mem.wp_appT elemDeeds rfl (.tmp 45) (.tmp 48) rfl HM.out 0 rfl rfl _ ⟨2, (k : Int), 0⟩ #[.int .i64 2, .int .i64 (k : Int), .int .i64 0] rfl _ _ rfl (by simp) rfl rfl (by decide) hln ?_; intro ad n1 cp w1 hn1 hM3 hs1 hk1 ha1)
            go_roundw
            case rel => exact ⟨k + 1, by omega, by go_num, hM3.cast (by rw [clearsTo_succ, ← List.append_assoc]; rfl)⟩
            case measure => simp [intOf]; omega
          · obtain rfl : N = k := by omega
            obtain ⟨A, hA⟩ : ∃ A, l ++ clearsTo N = A := ⟨_, rfl⟩
            have hAl : A.length ≤ 96 := by rw [← hA, List.length_append, clearsTo_len]; omega
            rw [hA] at hM
            have HM0 := Lib.hid hM
            have HAc := Lib.hid hA.symm
            clear hM hA
            go_wp2
            go_loopw [7, 11] (fun r i wr => ∃ k : Nat, k ≤ N ∧ i = .int .i64 k ∧ Mem w.heap.size w wr [rowT 34 3 encD r (A ++ scansTo k)]) (fun _ i _ => N - (intOf i).toNat)
            case atStart => exact ⟨0, Nat.zero_le _, rfl, HM0.out.cast (by simp [scansTo])⟩
            case round =>
              clear HM0
              obtain ⟨m, hm, rfl, hM⟩ := hrel
              by_cases hlt3 : m < N
              · have HM := Lib.hid hM
                have hln : (A ++ scansTo m).length ≤ 1000000 := by rw [List.length_append, scansTo_len]; omega
                clear hM
                go_wp2_with (at_builtin; refine Mem.wp_appT elemDeeds rfl (.tmp 55) (.tmp 58) rfl HM.out 0 rfl rfl _ ⟨4, (m : Int), 0⟩ #[.int .i64 4, .int .i64 (m : Int), .int .i64 0] rfl _ _ rfl (by simp) rfl rfl (by decide) hln ?_; intro ad n1 cp w1 hn1 hM3 hs1 hk1 ha1)
                go_roundw
                case rel => exact ⟨m + 1, by omega, by go_num, hM3.cast (by rw [scansTo_succ, ← List.append_assoc]; rfl)⟩
                case measure => simp [intOf]; omega
              · obtain rfl : m = N := by omega
                obtain ⟨all, he⟩ : ∃ all, A ++ scansTo m = all := ⟨_, rfl⟩
                have hall : all.length ≤ 100 := by rw [← he, List.length_append, scansTo_len]; omega
                rw [he] at hM
                have hle := few_le m A all he.symm
                have hno : (hrun m all all.length).1.waits.flatten = [] := few_none m l all (by rw [← he, HAc.out])
                have hI := hM.isTup 0 rfl encD_len (by omega)
                have HP := Lib.hid (play_any m u7 all wr hI)
                obtain ⟨a7, c7, rfl, _⟩ := hI.slice
                have HB := Lib.hid hM.below
                have HI := Lib.hid hI
                clear hM hI he
                go_wp2_with fail
                refine HP.out.mono ?_
                rintro e w5 ⟨cv, fv, wv, c, rfl, ⟨ac, nc, cc, rfl⟩, ⟨af, nf, cf, rfl⟩, ⟨aw, nw, cw, rfl⟩, hb5, hcase⟩
                rcases hcase with ⟨_, hno2⟩ | ⟨rfl, N2, hN2, _, _, _, hC, hF, hW⟩
                · exact absurd ⟨⟨by omega, by omega⟩, hall⟩ hno2
                obtain rfl : m = N2 := by omega
                have hi := hrun_inv m all all.length (Nat.le_refl _)
                obtain ⟨cs, hcs⟩ : ∃ cs, (hrun m all all.length).2 = cs := ⟨_, rfl⟩
                obtain ⟨s, hs⟩ : ∃ s, (hrun m all all.length).1 = s := ⟨_, rfl⟩
                rw [hcs] at hC hi
                rw [hs] at hF hW hi hle hno
                have hf := fr_le hi
                have hcl := hi.len
                obtain ⟨ac', cc', hv, _⟩ := hC.slice
                rw [hcl] at hv
                cases hv
                have hnw : nw = s.waits.flatten.length := by
                  obtain ⟨aw', cw', hv, _⟩ := hW.slice
                  injection hv
                have hnw1 : nw ≤ m := by omega
                have hnw0 : Hid (nw = 0) := Lib.hid (by rw [hnw, hno]; rfl)
                obtain ⟨W6, hW6⟩ : ∃ W6, w5.alloc (.cells #[.slice ac all.length cc, .slice af nf cf, .slice aw nw cw] 27) = W6 := ⟨_, rfl⟩
                have hb6 : Below w5.heap.size w5 W6 := by rw [← hW6]; exact (Below.refl _ _).alloc (Nat.le_refl _) _
                have b0 : W6.cell? ⟨w5.heap.size, 0, none⟩ = some (.slice ac all.length cc) := by rw [← hW6]; simp
                have b1 : W6.cell? ⟨w5.heap.size, 1, none⟩ = some (.slice af nf cf) := by rw [← hW6]; simp
                have b2 : W6.cell? ⟨w5.heap.size, 2, none⟩ = some (.slice aw nw cw) := by rw [← hW6]; simp
                have z6 : w5.heap.size < W6.heap.size := by rw [← hW6]; simp
                obtain ⟨bx, hbx⟩ : ∃ bx, w5.heap.size = bx := ⟨_, rfl⟩
                have hBx : Below wr.heap.size wr W6 := hb5.trans (hb6.mono hb5.size)
                have HB6 := Lib.hid (HB.out.trans (hBx.mono HB.out.size))
                have h64 : ∀ x ∈ retiredTo all cs 3 all.length, i64ok x := fun x hx => by have := hi.gone x hx; unfold i64ok; omega
                have HR := Lib.hid (retired_any _ _ all cs 3 W6.drew (HI.out.later hBx.drew) ((hC.later hb6).later (Below.refl _ _).drew) hi.len.symm (by omega) h64)
                have HF := Lib.hid ((hF.later hb6).later (Below.refl _ W6).drew)
                have HW := Lib.hid ((hW.later hb6).later (Below.refl _ W6).drew)
                have Hi := Lib.hid hi
                have HW6 := Lib.hid hW6
                have Hlf : Hid (s.freed.length ≤ 1000 ∧ s.waits.flatten.length ≤ 1000) := Lib.hid ⟨by omega, by omega⟩
                have H64 := Lib.hid h64
                rw [hbx] at b0 b1 b2 z6
                have Hbx := Lib.hid hbx
                clear hC hF hW hi hf hW6 hb6 hcs hs hcl hbx hnw hno hle hBx h64 hb5 HP HI HB
                go_wp2
                rw [Hbx.out, HW6.out]
                have q4 : decide ((nw : Int) ≤ (m : Int)) = true := decide_eq_true (by omega)
                have q0 : W6.drew.cell? ⟨bx, 0, none⟩ = some (.slice ac all.length cc) := by simpa using b0
                have q1 : W6.drew.cell? ⟨bx, 1, none⟩ = some (.slice af nf cf) := by simpa using b1
                have q2 : W6.drew.cell? ⟨bx, 2, none⟩ = some (.slice aw nw cw) := by simpa using b2
                have q5 : ((nw : Int) == 0) = true := by simp [hnw0.out]
                clear hnw0
                go_region_held3 (fun X => X.cell? ⟨bx, 0, none⟩ = some (.slice ac all.length cc) ∧ X.cell? ⟨bx, 1, none⟩ = some (.slice af nf cf) ∧ X.cell? ⟨bx, 2, none⟩ = some (.slice aw nw cw))
                    (first | exact ⟨q0, q1, q2⟩ | exact ⟨p0, p1, p2⟩ | exact ⟨p3, p4, p5⟩)
                    (first
                    | (go_at_call 14
                       refine HR.out.mono ?_
                       rintro e w8 ⟨r, rfl, hr, hb8⟩
                       have z8' : bx < W6.drew.heap.size := by simpa using z6
                       have p0 := (hb8.cell (p := ⟨_, _, none⟩) z8').trans q0
                       have p1 := (hb8.cell (p := ⟨_, _, none⟩) z8').trans q1
                       have p2 := (hb8.cell (p := ⟨_, _, none⟩) z8').trans q2
                       have z8 : bx < w8.heap.size := Nat.lt_of_lt_of_le z8' hb8.size
                       have HB8 := Lib.hid (((Below.refl W6.heap.size W6).drew).trans (hb8.mono (by simp)))
                       have HF8 := Lib.hid (fates_any r (.slice ac all.length cc) _ _ (retiredTo all cs 3 all.length) _ _ w8 hr (HF.out.later hb8) (HW.out.later hb8) ⟨_, _, _, rfl⟩ Hlf.out.1 Hlf.out.2 Hi.out.perm H64.out)
                       clear hr hb8)
                    | (go_at_call 13
                       refine HF8.out.mono ?_
                       rintro e w9 ⟨rfl, hb9⟩
                       have p3 := (hb9.cell (p := ⟨_, 0, none⟩) z8).trans p0
                       have p4 := (hb9.cell (p := ⟨_, 1, none⟩) z8).trans p1
                       have p5 := (hb9.cell (p := ⟨_, 2, none⟩) z8).trans p2
                       have HB9 := Lib.hid (HB6.out.trans ((HB8.out.trans (hb9.mono HB8.out.size)).mono HB6.out.size))
                       clear hb9))
                all_goals
                  go_wp2
                  go_ret
                  exact ⟨rfl, HB9.out⟩
  · have q3 : decide ((l.length : Int) + 8 > 100) = true := decide_eq_true (by omega)
    go_enter Try.func4, Try.ntmps4
    go_wp2
    go_ret
    exact ⟨rfl, Below.refl _ _⟩
end Go.Proofs.Ytgmjhoekpbomiaa
