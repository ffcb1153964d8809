/- EpochSoon, walked. -/
import Derived.Test.YtgmjhoekpbomiaaYo
import Derived.Test.YtgmjhoekpbomiaaZq
namespace Go.Proofs.Ytgmjhoekpbomiaa
open Go.RowKit

set_option maxRecDepth 100000 in
set_option maxHeartbeats 1000000 in
theorem epochSoon_yes (T : Int) (v : Value) (l : List Deed) (w : World) (hl : IsTup 3 encD w v l) (h64 : DeedsOk l) (hsz : l.length ≤ 17592186044416) :
    Calls Try.prog 6 #[.int .i64 T, v] w fun e w' => e = .returned (.bool true) ∧ Below w.heap.size w w' := by
  have Hl := Lib.hid hl
  have H64 := Lib.hid h64
  clear h64
  obtain ⟨al, cl, rfl, hlm⟩ := hl.slice
  clear hl
  by_cases hT : T < 1
  · have q1 : decide (T < 1) = true := decide_eq_true hT
    go_enter Try.func6, Try.ntmps6
    go_wp2
    go_ret
    exact ⟨rfl, Below.refl _ _⟩
  by_cases hT4 : T > 4
  · have q1 : decide (T < 1) = false := decide_eq_false hT
    have q2 : decide (T > 4) = true := decide_eq_true hT4
    go_enter Try.func6, Try.ntmps6
    go_wp2
    go_ret
    exact ⟨rfl, Below.refl _ _⟩
  have q1 : decide (T < 1) = false := decide_eq_false hT
  have q2 : decide (T > 4) = false := decide_eq_false hT4
  obtain ⟨N, rfl⟩ : ∃ N : Nat, T = N := ⟨T.toNat, by omega⟩
  by_cases hn : l.length ≤ 94
  · have q3 : decide ((l.length : Int) + 4 + 2 > 100) = false := decide_eq_false (by omega)
    go_enter Try.func6, Try.ntmps6
    go_wp2
    clear q1 q2 q3
    go_loopw [5, 26] (fun r i wr => ∃ k : Nat, k ≤ l.length ∧ i = .int .i64 k ∧ Mem w.heap.size w wr [rowT 34 3 encD r (l.take k)]) (fun _ i _ => l.length - (intOf i).toNat)
    case atStart => exact ⟨0, Nat.zero_le _, rfl, (Mem.start w).nilT _ _ _⟩
    case round =>
      obtain ⟨k, hk, rfl, hM⟩ := hrel
      by_cases hlt : k < l.length
      · obtain ⟨d, hd⟩ := get_some _ _ hlt
        obtain ⟨bl, ol, cl2, hv, _, z1, hc⟩ := Hl.out.at hM.below hd
        cases hv
        have d0 := hc 0 _ rfl
        have d1 := hc 1 _ rfl
        have d2 := hc 2 _ rfl
        rw [Nat.add_zero] at d0
        have HS := Lib.hid (take_succ_some _ _ _ hd)
        have HM := Lib.hid (hM.alloc_ (.cells #[.int .i64 d.kind, .int .i64 d.who, .int .i64 d.item] 34))
        have hln : (l.take k).length ≤ 1000000 := by rw [List.length_take]; omega
        clear hM hc hd
        go_wp2_with (at_builtin; refine Mem.wp_appT elemDeeds rfl (.tmp 30) (.tmp 32) rfl HM.out 0 rfl rfl _ d #[.int .i64 d.kind, .int .i64 d.who, .int .i64 d.item] rfl _ _ rfl (by simp) rfl rfl (by decide) hln ?_; intro ad n1 cp w1 hn1 hM3 hs1 hk1 ha1)
        go_roundw
        case rel => exact ⟨k + 1, by omega, by go_num, hM3.cast (by rw [HS.out]; rfl)⟩
        case measure => simp [intOf]; omega
      · obtain rfl : k = l.length := by omega
        rw [List.take_length] at hM
        have HM0 := Lib.hid hM
        clear hM
        go_wp2
        go_loopw [5, 8] (fun r i wr => ∃ k : Nat, k ≤ N ∧ i = .int .i64 k ∧ Mem w.heap.size w wr [rowT 34 3 encD r (l ++ clearsTo k)]) (fun _ i _ => N - (intOf i).toNat)
        case atStart => exact ⟨0, Nat.zero_le _, rfl, HM0.out.cast (by simp [clearsTo])⟩
        case round =>
          clear HM0
          obtain ⟨k, hk, rfl, hM⟩ := hrel
          by_cases hlt : k < N
          · have HM := Lib.hid hM
            have hln : (l ++ clearsTo k).length ≤ 1000000 := by rw [List.length_append, clearsTo_len]; omega
            clear hM
            go_wp2_with (at_builtin; refine Mem.wp_appT elemDeeds rfl (.tmp 40) (.tmp 43) rfl HM.out 0 rfl rfl _ ⟨2, (k : Int), 0⟩ #[.int .i64 2, .int .i64 (k : Int), .int .i64 0] rfl _ _ rfl (by simp) rfl rfl (by decide) hln ?_; intro ad n1 cp w1 hn1 hM3 hs1 hk1 ha1)
            go_roundw
            case rel => exact ⟨k + 1, by omega, by go_num, hM3.cast (by rw [clearsTo_succ, ← List.append_assoc]; rfl)⟩
            case measure => simp [intOf]; omega
          · obtain rfl : N = k := by omega
            obtain ⟨A, hA⟩ : ∃ A, l ++ clearsTo N = A := ⟨_, rfl⟩
            have hAl : A.length ≤ 98 := by rw [← hA, List.length_append, clearsTo_len]; omega
            rw [hA] at hM
            have HM0 := Lib.hid (hM.alloc_ (.cells #[.int .i64 4, .int .i64 0, .int .i64 0, .int .i64 4, .int .i64 0, .int .i64 0] 34))
            have HA := Lib.hid hA.symm
            clear hM hA
            go_wp2_with (at_builtin; refine Mem.wp_append elemDeeds rfl (.tmp 45) (.tmp 48) rfl HM0.out 0 rfl rfl ⟨wr.heap.size, 0, none⟩ 2 2 [.int .i64 4, .int .i64 0, .int .i64 0, .int .i64 4, .int .i64 0, .int .i64 0] rfl rfl ?_ ?_ ?_ ?_ ?_)
            · intro j u hj
              rcases j with _ | _ | _ | _ | _ | _ | j
              all_goals (simp at hj; try subst hj; try simp [Addr.add])
            · exact fun u hu => List.all_eq_true.1 (show List.all [Value.int .i64 4, .int .i64 0, .int .i64 0, .int .i64 4, .int .i64 0, .int .i64 0] (·.oneCell') = true from rfl) u hu
            · simp only [maxLen]; omega
            · omega
            intro ad cp w1 hM3 hs1 hk1 _
            have hM4 : Mem w.heap.size w w1 [rowT 34 3 encD (.slice ad (A.length + 2) cp) (A ++ [⟨4, 0, 0⟩, ⟨4, 0, 0⟩])] := hM3.cast (by simp [rowT, encD])
            obtain ⟨all, he⟩ : ∃ all, A ++ [⟨4, 0, 0⟩, ⟨4, 0, 0⟩] = all := ⟨_, rfl⟩
            have hae : all.length = A.length + 2 := by rw [← he]; simp
            rw [he, ← hae] at hM4
            have hall : all.length ≤ 100 := by omega
            obtain ⟨hwno, hlast⟩ := soon N l all (by rw [← he, HA.out, List.append_assoc])
            have hdk : DeedsOk all := by
              intro d hd
              rw [← he, HA.out] at hd
              rcases List.mem_append.1 hd with h | h
              · rcases List.mem_append.1 h with h | h
                · exact H64.out d h
                · obtain ⟨x, hx, rfl⟩ := List.mem_map.1 h
                  have := List.mem_range.1 hx
                  unfold i64ok; simp only []; omega
              · simp at h; subst h; unfold i64ok; simp only []; omega
            have hI := hM4.isTup 0 rfl encD_len (by omega)
            have HP := Lib.hid (eplay_any N _ all w1 hI hdk)
            have HB := Lib.hid hM4.below
            have HI := Lib.hid hI
            have Hdk := Lib.hid hdk
            rw [← hae]
            have hal1 : 1 ≤ all.length := by omega
            have Hwno := Lib.hid hwno
            have Hlast := Lib.hid hlast
            clear hM3 hM4 hI he hdk hs1 hk1 HM0 HA hae hwno hlast
            go_wp2_with fail
            refine HP.out.mono ?_
            rintro e w5 ⟨cv, fv, wv, c, rfl, ⟨ac, nc, cc, rfl⟩, ⟨af, nf, cf, rfl⟩, ⟨aw, nw, cw, rfl⟩, hb5, hcase⟩
            rcases hcase with ⟨_, hno2⟩ | ⟨rfl, N2, hN2, _, _, _, hC, hF, hW⟩
            · exact absurd ⟨⟨by omega, by omega⟩, hall⟩ hno2
            obtain rfl : N = N2 := by omega
            have hwno := Hwno.out
            have hlast := Hlast.out
            clear Hwno Hlast
            have hi := est_inv N all all.length (Nat.le_refl _)
            have hsz2 := hi.sizes
            have hperm := hi.perm
            have hcl : (ecodes N all all.length).length = all.length := ecodes_len ..
            obtain ⟨cs, hcs⟩ : ∃ cs, ecodes N all all.length = cs := ⟨_, rfl⟩
            obtain ⟨s, hs⟩ : ∃ s, est N all all.length = s := ⟨_, rfl⟩
            rw [hcs] at hC hcl hperm hlast
            rw [hs] at hF hW hsz2 hperm hwno
            obtain ⟨ac', cc', hv, _⟩ := hC.slice
            rw [hcl] at hv
            cases hv
            have hnw : nw = 0 := by
              obtain ⟨aw', cw', hv, _⟩ := hW.slice
              rw [hwno] at hv
              injection hv
            subst hnw
            obtain ⟨b8, off8, cap8, hv, hb8, _, y8, _⟩ := hC.at (Below.refl _ _) hlast
            rw [hcl] at hv
            cases hv
            obtain ⟨W6, hW6⟩ : ∃ W6, w5.alloc (.cells #[.slice (some ⟨b8, off8, none⟩) all.length cc, .slice af nf cf, .slice aw 0 cw] 27) = W6 := ⟨_, rfl⟩
            have hb6 : Below w5.heap.size w5 W6 := by rw [← hW6]; exact (Below.refl _ _).alloc (Nat.le_refl _) _
            have b0 : W6.cell? ⟨w5.heap.size, 0, none⟩ = some (.slice (some ⟨b8, off8, none⟩) all.length cc) := by rw [← hW6]; simp
            have b1 : W6.cell? ⟨w5.heap.size, 1, none⟩ = some (.slice af nf cf) := by rw [← hW6]; simp
            have b2 : W6.cell? ⟨w5.heap.size, 2, none⟩ = some (.slice aw 0 cw) := by rw [← hW6]; simp
            have y9 : W6.cell? ⟨b8, off8 + (all.length - 1), none⟩ = some (.int .i64 0) := by rw [hb6.cell (p := ⟨_, _, none⟩) hb8]; exact y8
            have z9 : b8 < W6.heap.size := Nat.lt_of_lt_of_le hb8 hb6.size
            have z6 : w5.heap.size < W6.heap.size := by rw [← hW6]; simp
            obtain ⟨bx, hbx⟩ : ∃ bx, w5.heap.size = bx := ⟨_, rfl⟩
            have hBx : Below w1.heap.size w1 W6 := hb5.trans (hb6.mono hb5.size)
            have HB6 := Lib.hid (HB.out.trans (hBx.mono HB.out.size))
            have h64 : ∀ x ∈ retiredTo all cs 3 all.length, i64ok x := fun x hx => by obtain ⟨d, hd, rfl⟩ := retiredTo_sub _ _ _ _ x hx; exact (Hdk.out d hd).2
            have HR := Lib.hid (retired_any _ _ all cs 3 W6.drew (HI.out.later hBx.drew) ((hC.later hb6).later (Below.refl _ _).drew) hcl.symm (by omega) h64)
            have HF := Lib.hid ((hF.later hb6).later (Below.refl _ W6).drew)
            have HW := Lib.hid ((hW.later hb6).later (Below.refl _ W6).drew)
            have Hperm := Lib.hid hperm
            have HW6 := Lib.hid hW6
            have Hlf : Hid (s.freed.length ≤ 1000 ∧ (s.waits.map (·.1)).length ≤ 1000) := Lib.hid ⟨by omega, by rw [List.length_map]; omega⟩
            have H64a := Lib.hid h64
            rw [hbx] at b0 b1 b2 z6
            have Hbx := Lib.hid hbx
            clear hC hF hW hi hW6 hb6 hcs hs hcl hbx hBx h64 hb5 HP HI HB hsz2 hperm hlast hwno y8 hb8
            go_wp2
            rw [Hbx.out, HW6.out]
            have q0 : W6.drew.cell? ⟨bx, 0, none⟩ = some (.slice (some ⟨b8, off8, none⟩) all.length cc) := by simpa using b0
            have q1 : W6.drew.cell? ⟨bx, 1, none⟩ = some (.slice af nf cf) := by simpa using b1
            have q2 : W6.drew.cell? ⟨bx, 2, none⟩ = some (.slice aw 0 cw) := by simpa using b2
            have y10 : W6.drew.cell? ⟨b8, off8 + (all.length - 1), none⟩ = some (.int .i64 0) := by simpa using y9
            obtain ⟨n1, hn1⟩ : ∃ n1, all.length - 1 = n1 := ⟨_, rfl⟩
            rw [hn1] at y10
            have e1 : IntKind.i64.wrap ((all.length : Int) - 1) = (n1 : Int) := by rw [IntWalk.i64_in _ (by omega)]; omega
            have e2 : n1 < all.length := by omega
            have e3 : (n1 : Int) < (all.length : Int) := by omega
            clear hn1
            go_region_held3 (fun X => X.cell? ⟨bx, 0, none⟩ = some (.slice (some ⟨b8, off8, none⟩) all.length cc) ∧ X.cell? ⟨bx, 1, none⟩ = some (.slice af nf cf) ∧ X.cell? ⟨bx, 2, none⟩ = some (.slice aw 0 cw) ∧ X.cell? ⟨b8, off8 + n1, none⟩ = some (.int .i64 0))
                (first | exact ⟨q0, q1, q2, y10⟩ | exact ⟨p0, p1, p2, p6⟩ | exact ⟨p3, p4, p5, p7⟩)
                (first
                | (go_at_call 14
                   refine HR.out.mono ?_
                   rintro e w8 ⟨r, rfl, hr, hb8⟩
                   have z8' : bx < W6.drew.heap.size := by simpa using z6
                   have z9' : b8 < W6.drew.heap.size := by simpa using z9
                   have p0 := (hb8.cell (p := ⟨_, _, none⟩) z8').trans q0
                   have p1 := (hb8.cell (p := ⟨_, _, none⟩) z8').trans q1
                   have p2 := (hb8.cell (p := ⟨_, _, none⟩) z8').trans q2
                   have p6 := (hb8.cell (p := ⟨_, _, none⟩) z9').trans y10
                   have z8 : bx < w8.heap.size := Nat.lt_of_lt_of_le z8' hb8.size
                   have z10 : b8 < w8.heap.size := Nat.lt_of_lt_of_le z9' hb8.size
                   have HB8 := Lib.hid (((Below.refl W6.heap.size W6).drew).trans (hb8.mono (by simp)))
                   have HF8 := Lib.hid (fates_any r (.slice (some ⟨b8, off8, none⟩) all.length cc) _ _ (retiredTo all cs 3 all.length) _ _ w8 hr (HF.out.later hb8) (HW.out.later hb8) ⟨_, _, _, rfl⟩ Hlf.out.1 Hlf.out.2 Hperm.out H64a.out)
                   clear hr hb8)
                | (go_at_call 13
                   refine HF8.out.mono ?_
                   rintro e w9 ⟨rfl, hb9⟩
                   have p3 := (hb9.cell (p := ⟨_, 0, none⟩) z8).trans p0
                   have p4 := (hb9.cell (p := ⟨_, 1, none⟩) z8).trans p1
                   have p5 := (hb9.cell (p := ⟨_, 2, none⟩) z8).trans p2
                   have p7 := (hb9.cell (p := ⟨_, _, none⟩) z10).trans p6
                   have HB9 := Lib.hid (HB6.out.trans ((HB8.out.trans (hb9.mono HB8.out.size)).mono HB6.out.size))
                   clear hb9))
            all_goals
              go_wp2
              go_ret
              exact ⟨rfl, HB9.out⟩
  · have q3 : decide ((l.length : Int) + 4 + 2 > 100) = true := decide_eq_true (by omega)
    go_enter Try.func6, Try.ntmps6
    go_wp2
    go_ret
    exact ⟨rfl, Below.refl _ _⟩
theorem epochSoon_walk (W : World) (v0 v1 : Value) (g0 : ∃ x : Int, v0 = .int .i64 x ∧ i64ok x) (g1 : ∃ l : List Deed, IsTup 3 encD W v1 l ∧ DeedsOk l ∧ l.length ≤ 17592186044416) :
    Calls Try.prog 6 #[v0, v1] W fun e w' => e = .returned (.bool true) ∧ Below W.heap.size W w' := by
  obtain ⟨x, rfl, _⟩ := g0
  obtain ⟨l, hl, h64, hs⟩ := g1
  exact epochSoon_yes x v1 l W hl h64 hs
end Go.Proofs.Ytgmjhoekpbomiaa
