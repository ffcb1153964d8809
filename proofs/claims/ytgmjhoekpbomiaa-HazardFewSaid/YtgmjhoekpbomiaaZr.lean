/- HazardFew, walked. -/
import Derived.Test.YtgmjhoekpbomiaaZl
import Derived.Test.YtgmjhoekpbomiaaZq
import Derived.Deep.DrawnRows
namespace Go.Proofs.Ytgmjhoekpbomiaa
open Go.RowKit

attribute [local go_sem ↓] Go.wp_at_zero Go.wp_at_succ
set_option maxRecDepth 100000 in
set_option maxHeartbeats 40000000 in
theorem hazardFew_no (T : Int) (v : Value) (l : List Deed) (w : World) (hl : IsTup 3 encD w v l) (hsz : l.length ≤ 17592186044416) :
    Calls Try.prog 4 #[.int .i64 T, v, .bool false] w fun e w' => e = .returned (.bool true) ∧ Below w.heap.size w w' := by
  have Hl := Lib.hid hl
  obtain ⟨al, cl, rfl, hlm⟩ := hl.slice
  clear hl
  by_cases hT : T < 1
  · have q1 : decide (T < 1) = true := decide_eq_true hT
    go_enter Try.func4, Try.ntmps4
    go_wp2
    go_ret
    exact ⟨rfl, Below.refl _ _⟩
  by_cases hT4 : T > 4
  · have q1 : decide (T < 1) = false := decide_eq_false hT
    have q2 : decide (T > 4) = true := decide_eq_true hT4
    go_enter Try.func4, Try.ntmps4
    go_wp2
    go_ret
    exact ⟨rfl, Below.refl _ _⟩
  have q1 : decide (T < 1) = false := decide_eq_false hT
  have q2 : decide (T > 4) = false := decide_eq_false hT4
  obtain ⟨N, rfl⟩ : ∃ N : Nat, T = N := ⟨T.toNat, by omega⟩
  by_cases hn : l.length ≤ 92
  · have q3 : decide ((l.length : Int) + 8 > 100) = false := decide_eq_false (by omega)
    go_enter Try.func4, Try.ntmps4
    go_wp2
    clear q1 q2 q3
    go_loopw [7, 28] (fun r i wr => ∃ k : Nat, k ≤ l.length ∧ i = .int .i64 k ∧ Mem w.heap.size w wr [rowT 34 3 encD r (l.take k)]) (fun _ i _ => l.length - (intOf i).toNat)
    case atStart => exact ⟨0, Nat.zero_le _, rfl, (Mem.start w).nilT _ _ _⟩
    case round =>
      obtain ⟨k, hk, rfl, hM⟩ := hrel
      by_cases hlt : k < l.length
      · obtain ⟨d, hd⟩ := get_some _ _ hlt
        obtain ⟨bl, ol, cl2, hv, _, z1, hc⟩ := Hl.out.at hM.below hd
        cases hv
        have d0 := hc 0 _ rfl
        have d1 := hc 1 _ rfl
        have d2 := hc 2 _ rfl
        rw [Nat.add_zero] at d0
        have HS := Lib.hid (take_succ_some _ _ _ hd)
        have HM := Lib.hid (hM.alloc_ (.cells #[.int .i64 d.kind, .int .i64 d.who, .int .i64 d.item] 34))
        have hln : (l.take k).length ≤ 1000000 := by rw [List.length_take]; omega
        clear hM hc hd
        go_wp2_with (at_builtin; refine Mem.wp_appT elemDeeds rfl (.tmp 32) (.tmp 34) rfl HM.out 0 rfl rfl _ d #[.int .i64 d.kind, .int .i64 d.who, .int .i64 d.item] rfl _ _ rfl (by simp) rfl rfl (by decide) hln ?_; intro ad n1 cp w1 hn1 hM3 hs1 hk1 ha1)
        go_roundw
        case rel => exact ⟨k + 1, by omega, by go_num, hM3.cast (by rw [HS.out]; rfl)⟩
        case measure => simp [intOf]; omega
      · obtain rfl : k = l.length := by omega
        rw [List.take_length] at hM
        have HM0 := Lib.hid hM
        clear hM
        obtain ⟨A, hA⟩ : ∃ A, l = A := ⟨_, rfl⟩
        have hAl : A.length ≤ 92 := by rw [← hA]; exact hn
        have HM1 := HM0.out
        rw [hA] at HM1
        clear HM0
        have HM0 := Lib.hid HM1
        clear HM1 hA
        go_wp2
        go_loopw [7, 10] (fun r i wr => i = .int .i64 0 ∧ Mem w.heap.size w wr [rowT 34 3 encD r A]) (fun _ _ _ => 0)
        case atStart => exact ⟨rfl, HM0.out⟩
        case round =>
            clear HM0
            obtain ⟨rfl, hM⟩ := hrel
            have HM0 := Lib.hid hM
            clear hM
            go_wp2
            go_loopw [7, 11] (fun r i wr => ∃ k : Nat, k ≤ N ∧ i = .int .i64 k ∧ Mem w.heap.size w wr [rowT 34 3 encD r (A ++ scansTo k)]) (fun _ i _ => N - (intOf i).toNat)
            case atStart => exact ⟨0, Nat.zero_le _, rfl, HM0.out.cast (by simp [scansTo])⟩
            case round =>
              clear HM0
              obtain ⟨m, hm, rfl, hM⟩ := hrel
              by_cases hlt3 : m < N
              · have HM := Lib.hid hM
                have hln : (A ++ scansTo m).length ≤ 1000000 := by rw [List.length_append, scansTo_len]; omega
                clear hM
                go_wp2_with (at_builtin; refine Mem.wp_appT elemDeeds rfl (.tmp 55) (.tmp 58) rfl HM.out 0 rfl rfl _ ⟨4, (m : Int), 0⟩ #[.int .i64 4, .int .i64 (m : Int), .int .i64 0] rfl _ _ rfl (by simp) rfl rfl (by decide) hln ?_; intro ad n1 cp w1 hn1 hM3 hs1 hk1 ha1)
                go_roundw
                case rel => exact ⟨m + 1, by omega, by go_num, hM3.cast (by rw [scansTo_succ, ← List.append_assoc]; rfl)⟩
                case measure => simp [intOf]; omega
              · obtain rfl : m = N := by omega
                obtain ⟨all, he⟩ : ∃ all, A ++ scansTo m = all := ⟨_, rfl⟩
                have hall : all.length ≤ 100 := by rw [← he, List.length_append, scansTo_len]; omega
                rw [he] at hM
                have hle := few_le m A all he.symm
                have hI := hM.isTup 0 rfl encD_len (by omega)
                have HP := Lib.hid (play_any m u7 all wr hI)
                obtain ⟨a7, c7, rfl, _⟩ := hI.slice
                have HB := Lib.hid hM.below
                have HI := Lib.hid hI
                clear hM hI he
                go_wp2_with fail
                refine HP.out.mono ?_
                rintro e w5 ⟨cv, fv, wv, c, rfl, ⟨ac, nc, cc, rfl⟩, ⟨af, nf, cf, rfl⟩, ⟨aw, nw, cw, rfl⟩, hb5, hcase⟩
                rcases hcase with ⟨_, hno2⟩ | ⟨rfl, N2, hN2, _, _, _, hC, hF, hW⟩
                · exact absurd ⟨⟨by omega, by omega⟩, hall⟩ hno2
                obtain rfl : m = N2 := by omega
                have hi := hrun_inv m all all.length (Nat.le_refl _)
                obtain ⟨cs, hcs⟩ : ∃ cs, (hrun m all all.length).2 = cs := ⟨_, rfl⟩
                obtain ⟨s, hs⟩ : ∃ s, (hrun m all all.length).1 = s := ⟨_, rfl⟩
                rw [hcs] at hC hi
                rw [hs] at hF hW hi hle
                have hf := fr_le hi
                have hcl := hi.len
                obtain ⟨ac', cc', hv, _⟩ := hC.slice
                rw [hcl] at hv
                cases hv
                have hnw : nw = s.waits.flatten.length := by
                  obtain ⟨aw', cw', hv, _⟩ := hW.slice
                  injection hv
                have hnw1 : nw ≤ m := by omega
                obtain ⟨W6, hW6⟩ : ∃ W6, w5.alloc (.cells #[.slice ac all.length cc, .slice af nf cf, .slice aw nw cw] 27) = W6 := ⟨_, rfl⟩
                have hb6 : Below w5.heap.size w5 W6 := by rw [← hW6]; exact (Below.refl _ _).alloc (Nat.le_refl _) _
                have b0 : W6.cell? ⟨w5.heap.size, 0, none⟩ = some (.slice ac all.length cc) := by rw [← hW6]; simp
                have b1 : W6.cell? ⟨w5.heap.size, 1, none⟩ = some (.slice af nf cf) := by rw [← hW6]; simp
                have b2 : W6.cell? ⟨w5.heap.size, 2, none⟩ = some (.slice aw nw cw) := by rw [← hW6]; simp
                have z6 : w5.heap.size < W6.heap.size := by rw [← hW6]; simp
                obtain ⟨bx, hbx⟩ : ∃ bx, w5.heap.size = bx := ⟨_, rfl⟩
                have hBx : Below wr.heap.size wr W6 := hb5.trans (hb6.mono hb5.size)
                have HB6 := Lib.hid (HB.out.trans (hBx.mono HB.out.size))
                have h64 : ∀ x ∈ retiredTo all cs 3 all.length, i64ok x := fun x hx => by have := hi.gone x hx; unfold i64ok; omega
                have HR := Lib.hid (retired_any _ _ all cs 3 W6.drew (HI.out.later hBx.drew) ((hC.later hb6).later (Below.refl _ _).drew) hi.len.symm (by omega) h64)
                have HF := Lib.hid ((hF.later hb6).later (Below.refl _ W6).drew)
                have HW := Lib.hid ((hW.later hb6).later (Below.refl _ W6).drew)
                have Hi := Lib.hid hi
                have HW6 := Lib.hid hW6
                have Hlf : Hid (s.freed.length ≤ 1000 ∧ s.waits.flatten.length ≤ 1000) := Lib.hid ⟨by omega, by omega⟩
                have H64 := Lib.hid h64
                rw [hbx] at b0 b1 b2 z6
                have Hbx := Lib.hid hbx
                clear hC hF hW hi hf hW6 hb6 hcs hs hcl hbx hnw hle hBx h64 hb5 HP HI HB
                go_wp2
                rw [Hbx.out, HW6.out]
                have q4 : decide ((nw : Int) ≤ (m : Int)) = true := decide_eq_true (by omega)
                have q0 : W6.drew.cell? ⟨bx, 0, none⟩ = some (.slice ac all.length cc) := by simpa using b0
                have q1 : W6.drew.cell? ⟨bx, 1, none⟩ = some (.slice af nf cf) := by simpa using b1
                have q2 : W6.drew.cell? ⟨bx, 2, none⟩ = some (.slice aw nw cw) := by simpa using b2
                refine wp_region_held_drew (S := fun X => X.cell? ⟨bx, 0, none⟩ = some (.slice ac all.length cc) ∧ X.cell? ⟨bx, 1, none⟩ = some (.slice af nf cf) ∧ X.cell? ⟨bx, 2, none⟩ = some (.slice aw nw cw)) (by kernel_rfl) ⟨q0, q1, q2⟩ (fun hHeld => ?_)
                refine wpAnyH_take (i := 0) (oi := { dst := some 66, op := Op.move (Operand.tmp 13), type := 28, pos := "more.go:421", after := #[], guard := none }) (v := ?_) rfl (by kernel_rfl) (by kernel_rfl) (by kernel_rfl) (fun _ _ _ h => h) (Or.inl ⟨by rfl, ?_⟩) (by assumption) ?_
                rotate_left
                · ((intro w hSw; (try dsimp only at hSw); go_simp); (try with_reducible rfl))
                try simp only [Act.put, List.setIfInBounds_toArray, List.set_cons_zero, List.set_cons_succ]
                refine wpAnyH_take (i := 1) (oi := { dst := some 67, op := Op.binOp BinOp.eql 28 (Operand.tmp 66) (Operand.const (Value.int IntKind.i64 0)) 28, type := 4, pos := "more.go:421", after := #[{ on := 0, ground := Ground.data }], guard := none }) (v := ?_) rfl (by kernel_rfl) (by kernel_rfl) (by kernel_rfl) (fun _ _ _ h => h) (Or.inl ⟨by rfl, ?_⟩) (by assumption) ?_
                rotate_left
                · ((intro w hSw; (try dsimp only at hSw); go_simp); (try with_reducible rfl))
                try simp only [Act.put, List.setIfInBounds_toArray, List.set_cons_zero, List.set_cons_succ]
                refine wpAnyH_take (i := 2) (oi := { dst := some 68, op := Op.move (Operand.tmp 67), type := 4, pos := "more.go:421", after := #[{ on := 1, ground := Ground.data }], guard := none }) (v := ?_) rfl (by kernel_rfl) (by kernel_rfl) (by kernel_rfl) (fun _ _ _ h => h) (Or.inl ⟨by rfl, ?_⟩) (by assumption) ?_
                rotate_left
                · ((intro w hSw; (try dsimp only at hSw); go_simp); (try with_reducible rfl))
                try simp only [Act.put, List.setIfInBounds_toArray, List.set_cons_zero, List.set_cons_succ]
                refine wpAnyH_take (i := 3) (oi := { dst := some 69, op := Op.fieldAddr 27 (Operand.tmp 12) 0, type := 0, pos := "more.go:421", after := #[{ on := 2, ground := Ground.guard }], guard := some (2, true) }) (v := ?_) rfl (by kernel_rfl) (by kernel_rfl) (by kernel_rfl) (fun _ _ _ h => h) (Or.inl ⟨by rfl, ?_⟩) (by assumption) ?_
                rotate_left
                · ((intro w hSw; (try dsimp only at hSw); go_simp); (try with_reducible rfl))
                try simp only [Act.put, List.setIfInBounds_toArray, List.set_cons_zero, List.set_cons_succ]
                refine wpAnyH_take (i := 4) (oi := { dst := some 70, op := Op.load 23 (Operand.tmp 69), type := 23, pos := "more.go:421", after := #[{ on := 3, ground := Ground.data }, { on := 2, ground := Ground.guard }], guard := some (2, true) }) (v := ?_) rfl (by kernel_rfl) (by kernel_rfl) (by kernel_rfl) (fun _ _ _ h => h) (Or.inl ⟨by rfl, ?_⟩) (by assumption) ?_
                rotate_left
                · ((intro w hSw; (try dsimp only at hSw); go_simp); (try with_reducible rfl))
                try simp only [Act.put, List.setIfInBounds_toArray, List.set_cons_zero, List.set_cons_succ]
                refine wpAnyH_take (i := 5) (oi := { dst := some 71, op := Op.call { callee := Callee.builtin Builtin.len, args := #[Operand.tmp 70], argTypes := #[23] }, type := 3, pos := "more.go:421", after := #[{ on := 4, ground := Ground.data }, { on := 2, ground := Ground.guard }], guard := some (2, true) }) (v := ?_) rfl (by kernel_rfl) (by kernel_rfl) (by kernel_rfl) (fun _ _ _ h => h) (Or.inl ⟨by rfl, ?_⟩) (by assumption) ?_
                rotate_left
                · ((intro w hSw; (try dsimp only at hSw); go_simp); (try with_reducible rfl))
                try simp only [Act.put, List.setIfInBounds_toArray, List.set_cons_zero, List.set_cons_succ]
                refine wpAnyH_take (i := 6) (oi := { dst := some 72, op := Op.move (Operand.tmp 7), type := 22, pos := "more.go:421", after := #[{ on := 2, ground := Ground.guard }], guard := some (2, true) }) (v := ?_) rfl (by kernel_rfl) (by kernel_rfl) (by kernel_rfl) (fun _ _ _ h => h) (Or.inl ⟨by rfl, ?_⟩) (by assumption) ?_
                rotate_left
                · ((intro w hSw; (try dsimp only at hSw); go_simp); (try with_reducible rfl))
                try simp only [Act.put, List.setIfInBounds_toArray, List.set_cons_zero, List.set_cons_succ]
                refine wpAnyH_take (i := 7) (oi := { dst := some 73, op := Op.call { callee := Callee.builtin Builtin.len, args := #[Operand.tmp 72], argTypes := #[22] }, type := 3, pos := "more.go:421", after := #[{ on := 6, ground := Ground.data }, { on := 2, ground := Ground.guard }], guard := some (2, true) }) (v := ?_) rfl (by kernel_rfl) (by kernel_rfl) (by kernel_rfl) (fun _ _ _ h => h) (Or.inl ⟨by rfl, ?_⟩) (by assumption) ?_
                rotate_left
                · ((intro w hSw; (try dsimp only at hSw); go_simp); (try with_reducible rfl))
                try simp only [Act.put, List.setIfInBounds_toArray, List.set_cons_zero, List.set_cons_succ]
                refine wpAnyH_take (i := 8) (oi := { dst := some 74, op := Op.binOp BinOp.eql 3 (Operand.tmp 71) (Operand.tmp 73) 3, type := 4, pos := "more.go:421", after := #[{ on := 5, ground := Ground.data }, { on := 7, ground := Ground.data }, { on := 2, ground := Ground.guard }], guard := some (2, true) }) (v := ?_) rfl (by kernel_rfl) (by kernel_rfl) (by kernel_rfl) (fun _ _ _ h => h) (Or.inl ⟨by rfl, ?_⟩) (by assumption) ?_
                rotate_left
                · ((intro w hSw; (try dsimp only at hSw); go_simp); (try with_reducible rfl))
                try simp only [Act.put, List.setIfInBounds_toArray, List.set_cons_zero, List.set_cons_succ]
                refine wpAnyH_take (i := 9) (oi := { dst := some 75, op := Op.pick (Operand.tmp 68) (Operand.tmp 74) (Operand.const (Value.bool false)), type := 4, pos := "more.go:421", after := #[{ on := 2, ground := Ground.data }, { on := 8, ground := Ground.data }], guard := none }) (v := ?_) rfl (by kernel_rfl) (by kernel_rfl) (by kernel_rfl) (fun _ _ _ h => h) (Or.inl ⟨by rfl, ?_⟩) (by assumption) ?_
                rotate_left
                · ((intro w hSw; (try dsimp only at hSw); go_simp); (try with_reducible rfl))
                try simp only [Act.put, List.setIfInBounds_toArray, List.set_cons_zero, List.set_cons_succ]
                refine wpAnyH_take (i := 10) (oi := { dst := some 76, op := Op.move (Operand.tmp 75), type := 4, pos := "more.go:421", after := #[{ on := 9, ground := Ground.data }, { on := 2, ground := Ground.chain }], guard := none }) (v := ?_) rfl (by kernel_rfl) (by kernel_rfl) (by kernel_rfl) (fun _ _ _ h => h) (Or.inl ⟨by rfl, ?_⟩) (by assumption) ?_
                rotate_left
                · ((intro w hSw; (try dsimp only at hSw); go_simp); (try with_reducible rfl))
                try simp only [Act.put, List.setIfInBounds_toArray, List.set_cons_zero, List.set_cons_succ]
                refine wpAnyH_take (i := 11) (oi := { dst := some 77, op := Op.fieldAddr 27 (Operand.tmp 12) 2, type := 0, pos := "more.go:421", after := #[{ on := 10, ground := Ground.guard }], guard := some (10, true) }) (v := ?_) rfl (by kernel_rfl) (by kernel_rfl) (by kernel_rfl) (fun _ _ _ h => h) (Or.inl ⟨by rfl, ?_⟩) (by assumption) ?_
                rotate_left
                · ((intro w hSw; (try dsimp only at hSw); go_simp); (try with_reducible rfl))
                try simp only [Act.put, List.setIfInBounds_toArray, List.set_cons_zero, List.set_cons_succ]
                refine wpAnyH_take (i := 12) (oi := { dst := some 78, op := Op.load 25 (Operand.tmp 77), type := 25, pos := "more.go:421", after := #[{ on := 11, ground := Ground.data }, { on := 10, ground := Ground.guard }], guard := some (10, true) }) (v := ?_) rfl (by kernel_rfl) (by kernel_rfl) (by kernel_rfl) (fun _ _ _ h => h) (Or.inl ⟨by rfl, ?_⟩) (by assumption) ?_
                rotate_left
                · ((intro w hSw; (try dsimp only at hSw); go_simp); (try with_reducible rfl))
                try simp only [Act.put, List.setIfInBounds_toArray, List.set_cons_zero, List.set_cons_succ]
                refine wpAnyH_take (i := 13) (oi := { dst := some 79, op := Op.call { callee := Callee.builtin Builtin.len, args := #[Operand.tmp 78], argTypes := #[25] }, type := 3, pos := "more.go:421", after := #[{ on := 12, ground := Ground.data }, { on := 10, ground := Ground.guard }], guard := some (10, true) }) (v := ?_) rfl (by kernel_rfl) (by kernel_rfl) (by kernel_rfl) (fun _ _ _ h => h) (Or.inl ⟨by rfl, ?_⟩) (by assumption) ?_
                rotate_left
                · ((intro w hSw; (try dsimp only at hSw); go_simp); (try with_reducible rfl))
                try simp only [Act.put, List.setIfInBounds_toArray, List.set_cons_zero, List.set_cons_succ]
                refine wpAnyH_take (i := 14) (oi := { dst := some 80, op := Op.move (Operand.tmp 0), type := 3, pos := "more.go:421", after := #[{ on := 10, ground := Ground.guard }], guard := some (10, true) }) (v := ?_) rfl (by kernel_rfl) (by kernel_rfl) (by kernel_rfl) (fun _ _ _ h => h) (Or.inl ⟨by rfl, ?_⟩) (by assumption) ?_
                rotate_left
                · ((intro w hSw; (try dsimp only at hSw); go_simp); (try with_reducible rfl))
                try simp only [Act.put, List.setIfInBounds_toArray, List.set_cons_zero, List.set_cons_succ]
                refine wpAnyH_take (i := 15) (oi := { dst := some 81, op := Op.binOp BinOp.leq 3 (Operand.tmp 79) (Operand.tmp 80) 3, type := 4, pos := "more.go:421", after := #[{ on := 13, ground := Ground.data }, { on := 14, ground := Ground.data }, { on := 10, ground := Ground.guard }], guard := some (10, true) }) (v := ?_) rfl (by kernel_rfl) (by kernel_rfl) (by kernel_rfl) (fun _ _ _ h => h) (Or.inl ⟨by rfl, ?_⟩) (by assumption) ?_
                rotate_left
                · ((intro w hSw; (try dsimp only at hSw); go_simp); (try with_reducible rfl))
                try simp only [Act.put, List.setIfInBounds_toArray, List.set_cons_zero, List.set_cons_succ]
                refine wpAnyH_take (i := 16) (oi := { dst := some 82, op := Op.pick (Operand.tmp 76) (Operand.tmp 81) (Operand.const (Value.bool false)), type := 4, pos := "more.go:421", after := #[{ on := 10, ground := Ground.data }, { on := 15, ground := Ground.data }], guard := none }) (v := ?_) rfl (by kernel_rfl) (by kernel_rfl) (by kernel_rfl) (fun _ _ _ h => h) (Or.inl ⟨by rfl, ?_⟩) (by assumption) ?_
                rotate_left
                · ((intro w hSw; (try dsimp only at hSw); go_simp); (try with_reducible rfl))
                try simp only [Act.put, List.setIfInBounds_toArray, List.set_cons_zero, List.set_cons_succ]
                refine wpAnyH_take (i := 17) (oi := { dst := some 83, op := Op.move (Operand.tmp 82), type := 4, pos := "more.go:421", after := #[{ on := 16, ground := Ground.data }, { on := 10, ground := Ground.chain }], guard := none }) (v := ?_) rfl (by kernel_rfl) (by kernel_rfl) (by kernel_rfl) (fun _ _ _ h => h) (Or.inl ⟨by rfl, ?_⟩) (by assumption) ?_
                rotate_left
                · ((intro w hSw; (try dsimp only at hSw); go_simp); (try with_reducible rfl))
                try simp only [Act.put, List.setIfInBounds_toArray, List.set_cons_zero, List.set_cons_succ]
                refine wpAnyH_take (i := 18) (oi := { dst := some 84, op := Op.move (Operand.tmp 2), type := 4, pos := "more.go:421", after := #[{ on := 17, ground := Ground.guard }], guard := some (17, true) }) (v := ?_) rfl (by kernel_rfl) (by kernel_rfl) (by kernel_rfl) (fun _ _ _ h => h) (Or.inl ⟨by rfl, ?_⟩) (by assumption) ?_
                rotate_left
                · ((intro w hSw; (try dsimp only at hSw); go_simp); (try with_reducible rfl))
                try simp only [Act.put, List.setIfInBounds_toArray, List.set_cons_zero, List.set_cons_succ]
                refine wpAnyH_take (i := 19) (oi := { dst := some 85, op := Op.unOp UnOp.not 4 (Operand.tmp 84), type := 4, pos := "more.go:421", after := #[{ on := 18, ground := Ground.data }, { on := 17, ground := Ground.guard }], guard := some (17, true) }) (v := ?_) rfl (by kernel_rfl) (by kernel_rfl) (by kernel_rfl) (fun _ _ _ h => h) (Or.inl ⟨by rfl, ?_⟩) (by assumption) ?_
                rotate_left
                · ((intro w hSw; (try dsimp only at hSw); go_simp); (try with_reducible rfl))
                try simp only [Act.put, List.setIfInBounds_toArray, List.set_cons_zero, List.set_cons_succ]
                refine wpAnyH_take (i := 20) (oi := { dst := some 86, op := Op.move (Operand.tmp 85), type := 4, pos := "more.go:421", after := #[{ on := 19, ground := Ground.data }, { on := 17, ground := Ground.chain }, { on := 17, ground := Ground.guard }], guard := some (17, true) }) (v := ?_) rfl (by kernel_rfl) (by kernel_rfl) (by kernel_rfl) (fun _ _ _ h => h) (Or.inl ⟨by rfl, ?_⟩) (by assumption) ?_
                rotate_left
                · ((intro w hSw; (try dsimp only at hSw); go_simp); (try with_reducible rfl))
                try simp only [Act.put, List.setIfInBounds_toArray, List.set_cons_zero, List.set_cons_succ]
                refine wpAnyH_take (i := 21) (oi := { dst := some 87, op := Op.fieldAddr 27 (Operand.tmp 12) 2, type := 0, pos := "more.go:421", after := #[{ on := 20, ground := Ground.guard }], guard := some (20, false) }) (v := undef) rfl (by kernel_rfl) (by kernel_rfl) (by kernel_rfl) (fun _ _ _ h => h) (Or.inr ⟨by rfl, rfl⟩) (by assumption) ?_
                try simp only [Act.put, List.setIfInBounds_toArray, List.set_cons_zero, List.set_cons_succ]
                refine wpAnyH_take (i := 22) (oi := { dst := some 88, op := Op.load 25 (Operand.tmp 87), type := 25, pos := "more.go:421", after := #[{ on := 21, ground := Ground.data }, { on := 20, ground := Ground.guard }], guard := some (20, false) }) (v := undef) rfl (by kernel_rfl) (by kernel_rfl) (by kernel_rfl) (fun _ _ _ h => h) (Or.inr ⟨by rfl, rfl⟩) (by assumption) ?_
                try simp only [Act.put, List.setIfInBounds_toArray, List.set_cons_zero, List.set_cons_succ]
                refine wpAnyH_take (i := 23) (oi := { dst := some 89, op := Op.call { callee := Callee.builtin Builtin.len, args := #[Operand.tmp 88], argTypes := #[25] }, type := 3, pos := "more.go:421", after := #[{ on := 22, ground := Ground.data }, { on := 20, ground := Ground.guard }], guard := some (20, false) }) (v := undef) rfl (by kernel_rfl) (by kernel_rfl) (by kernel_rfl) (fun _ _ _ h => h) (Or.inr ⟨by rfl, rfl⟩) (by assumption) ?_
                try simp only [Act.put, List.setIfInBounds_toArray, List.set_cons_zero, List.set_cons_succ]
                refine wpAnyH_take (i := 24) (oi := { dst := some 90, op := Op.binOp BinOp.eql 3 (Operand.tmp 89) (Operand.const (Value.int IntKind.i64 0)) 3, type := 4, pos := "more.go:421", after := #[{ on := 23, ground := Ground.data }, { on := 20, ground := Ground.guard }], guard := some (20, false) }) (v := undef) rfl (by kernel_rfl) (by kernel_rfl) (by kernel_rfl) (fun _ _ _ h => h) (Or.inr ⟨by rfl, rfl⟩) (by assumption) ?_
                try simp only [Act.put, List.setIfInBounds_toArray, List.set_cons_zero, List.set_cons_succ]
                refine wpAnyH_take (i := 25) (oi := { dst := some 91, op := Op.pick (Operand.tmp 86) (Operand.const (Value.bool true)) (Operand.tmp 90), type := 4, pos := "more.go:421", after := #[{ on := 20, ground := Ground.data }, { on := 24, ground := Ground.data }, { on := 17, ground := Ground.guard }], guard := some (17, true) }) (v := ?_) rfl (by kernel_rfl) (by kernel_rfl) (by kernel_rfl) (fun _ _ _ h => h) (Or.inl ⟨by rfl, ?_⟩) (by assumption) ?_
                rotate_left
                · ((intro w hSw; (try dsimp only at hSw); go_simp); (try with_reducible rfl))
                try simp only [Act.put, List.setIfInBounds_toArray, List.set_cons_zero, List.set_cons_succ]
                refine wpAnyH_take (i := 26) (oi := { dst := some 92, op := Op.pick (Operand.tmp 83) (Operand.tmp 91) (Operand.const (Value.bool false)), type := 4, pos := "more.go:421", after := #[{ on := 17, ground := Ground.data }, { on := 25, ground := Ground.data }], guard := none }) (v := ?_) rfl (by kernel_rfl) (by kernel_rfl) (by kernel_rfl) (fun _ _ _ h => h) (Or.inl ⟨by rfl, ?_⟩) (by assumption) ?_
                rotate_left
                · ((intro w hSw; (try dsimp only at hSw); go_simp); (try with_reducible rfl))
                try simp only [Act.put, List.setIfInBounds_toArray, List.set_cons_zero, List.set_cons_succ]
                refine wpAnyH_take (i := 27) (oi := { dst := some 93, op := Op.move (Operand.tmp 92), type := 4, pos := "more.go:421", after := #[{ on := 26, ground := Ground.data }, { on := 20, ground := Ground.chain }], guard := none }) (v := ?_) rfl (by kernel_rfl) (by kernel_rfl) (by kernel_rfl) (fun _ _ _ h => h) (Or.inl ⟨by rfl, ?_⟩) (by assumption) ?_
                rotate_left
                · ((intro w hSw; (try dsimp only at hSw); go_simp); (try with_reducible rfl))
                try simp only [Act.put, List.setIfInBounds_toArray, List.set_cons_zero, List.set_cons_succ]
                refine wpAnyH_take (i := 28) (oi := { dst := some 94, op := Op.move (Operand.tmp 7), type := 22, pos := "more.go:421", after := #[{ on := 27, ground := Ground.guard }], guard := some (27, true) }) (v := ?_) rfl (by kernel_rfl) (by kernel_rfl) (by kernel_rfl) (fun _ _ _ h => h) (Or.inl ⟨by rfl, ?_⟩) (by assumption) ?_
                rotate_left
                · ((intro w hSw; (try dsimp only at hSw); go_simp); (try with_reducible rfl))
                try simp only [Act.put, List.setIfInBounds_toArray, List.set_cons_zero, List.set_cons_succ]
                refine wpAnyH_take (i := 29) (oi := { dst := some 95, op := Op.fieldAddr 27 (Operand.tmp 12) 0, type := 0, pos := "more.go:421", after := #[{ on := 27, ground := Ground.guard }], guard := some (27, true) }) (v := ?_) rfl (by kernel_rfl) (by kernel_rfl) (by kernel_rfl) (fun _ _ _ h => h) (Or.inl ⟨by rfl, ?_⟩) (by assumption) ?_
                rotate_left
                · ((intro w hSw; (try dsimp only at hSw); go_simp); (try with_reducible rfl))
                try simp only [Act.put, List.setIfInBounds_toArray, List.set_cons_zero, List.set_cons_succ]
                refine wpAnyH_take (i := 30) (oi := { dst := some 96, op := Op.load 23 (Operand.tmp 95), type := 23, pos := "more.go:421", after := #[{ on := 29, ground := Ground.data }, { on := 27, ground := Ground.guard }], guard := some (27, true) }) (v := ?_) rfl (by kernel_rfl) (by kernel_rfl) (by kernel_rfl) (fun _ _ _ h => h) (Or.inl ⟨by rfl, ?_⟩) (by assumption) ?_
                rotate_left
                · ((intro w hSw; (try dsimp only at hSw); go_simp); (try with_reducible rfl))
                try simp only [Act.put, List.setIfInBounds_toArray, List.set_cons_zero, List.set_cons_succ]
                refine wpAnyH_take (i := 32) (oi := { dst := some 98, op := Op.load 27 (Operand.tmp 12), type := 27, pos := "more.go:421", after := #[{ on := 27, ground := Ground.guard }], guard := some (27, true) }) (v := ?_) rfl (by kernel_rfl) (by kernel_rfl) (by kernel_rfl) (fun _ _ _ h => h) (Or.inl ⟨by rfl, ?_⟩) (by assumption) ?_
                rotate_left
                · ((intro w hSw; (try dsimp only at hSw); go_simp); (try with_reducible rfl))
                try simp only [Act.put, List.setIfInBounds_toArray, List.set_cons_zero, List.set_cons_succ]
                refine wpAnyH_ready (rs := [31]) (by kernel_rfl) (by simp) ?_
                refine AllReadyH.cons (o := { dst := some 97, op := Op.call { callee := Callee.value (Operand.func 14), args := #[Operand.tmp 94, Operand.tmp 96, Operand.const (Value.int IntKind.i64 3)], argTypes := #[22, 23, 3] }, type := 25, pos := "more.go:421", after := #[{ on := 28, ground := Ground.data }, { on := 30, ground := Ground.data }, { on := 27, ground := Ground.chain }, { on := 27, ground := Ground.guard }], guard := some (27, true) }) rfl (fun K hK => ?_) AllReadyH.nil
                go_simp
                refine HR.out.mono ?_
                rintro e w8 ⟨r, rfl, hr, hb8⟩
                have z8' : bx < W6.drew.heap.size := by simpa using z6
                have p0 := (hb8.cell (p := ⟨_, _, none⟩) z8').trans q0
                have p1 := (hb8.cell (p := ⟨_, _, none⟩) z8').trans q1
                have p2 := (hb8.cell (p := ⟨_, _, none⟩) z8').trans q2
                have z8 : bx < w8.heap.size := Nat.lt_of_lt_of_le z8' hb8.size
                have HB8 := Lib.hid (((Below.refl W6.heap.size W6).drew).trans (hb8.mono (by simp)))
                have HF8 := Lib.hid (fates_any r (.slice ac all.length cc) _ _ (retiredTo all cs 3 all.length) _ _ w8 hr (HF.out.later hb8) (HW.out.later hb8) ⟨_, _, _, rfl⟩ Hlf.out.1 Hlf.out.2 Hi.out.perm H64.out)
                clear hr hb8 hHeld
                try simp only []
                refine hK.out _ _ ⟨p0, p1, p2⟩ (fun hHeld => ?_)
                clear hK K
                try simp only [Act.put, List.setIfInBounds_toArray, List.set_cons_zero, List.set_cons_succ]
                refine wpAnyH_ready (rs := [33]) (by kernel_rfl) (by simp) ?_
                refine AllReadyH.cons (o := { dst := some 99, op := Op.call { callee := Callee.value (Operand.func 13), args := #[Operand.tmp 97, Operand.tmp 98], argTypes := #[25, 27] }, type := 4, pos := "more.go:421", after := #[{ on := 31, ground := Ground.data }, { on := 32, ground := Ground.data }, { on := 31, ground := Ground.chain }, { on := 27, ground := Ground.guard }], guard := some (27, true) }) rfl (fun K hK => ?_) AllReadyH.nil
                go_simp
                refine HF8.out.mono ?_
                rintro e w9 ⟨rfl, hb9⟩
                have p3 := (hb9.cell (p := ⟨_, 0, none⟩) z8).trans p0
                have p4 := (hb9.cell (p := ⟨_, 1, none⟩) z8).trans p1
                have p5 := (hb9.cell (p := ⟨_, 2, none⟩) z8).trans p2
                have HB9 := Lib.hid (HB6.out.trans ((HB8.out.trans (hb9.mono HB8.out.size)).mono HB6.out.size))
                clear hb9 hHeld
                try simp only []
                refine hK.out _ _ ⟨p3, p4, p5⟩ (fun hHeld => ?_)
                clear hK K
                try simp only [Act.put, List.setIfInBounds_toArray, List.set_cons_zero, List.set_cons_succ]
                refine wpAnyH_take (i := 34) (oi := { dst := some 100, op := Op.pick (Operand.tmp 93) (Operand.tmp 99) (Operand.const (Value.bool false)), type := 4, pos := "more.go:421", after := #[{ on := 27, ground := Ground.data }, { on := 33, ground := Ground.data }], guard := none }) (v := ?_) rfl (by kernel_rfl) (by kernel_rfl) (by kernel_rfl) (fun _ _ _ h => h) (Or.inl ⟨by rfl, ?_⟩) (by assumption) ?_
                rotate_left
                · ((intro w hSw; (try dsimp only at hSw); go_simp); (try with_reducible rfl))
                try simp only [Act.put, List.setIfInBounds_toArray, List.set_cons_zero, List.set_cons_succ]
                refine wpAnyH_take (i := 35) (oi := { dst := some 6, op := Op.assign (Operand.tmp 100), type := 4, pos := "more.go:421", after := #[{ on := 34, ground := Ground.data }, { on := 33, ground := Ground.chain }, { on := 0, ground := Ground.phase }, { on := 1, ground := Ground.phase }, { on := 2, ground := Ground.phase }, { on := 3, ground := Ground.phase }, { on := 4, ground := Ground.phase }, { on := 5, ground := Ground.phase }, { on := 6, ground := Ground.phase }, { on := 7, ground := Ground.phase }, { on := 8, ground := Ground.phase }, { on := 9, ground := Ground.phase }, { on := 10, ground := Ground.phase }, { on := 11, ground := Ground.phase }, { on := 12, ground := Ground.phase }, { on := 13, ground := Ground.phase }, { on := 14, ground := Ground.phase }, { on := 15, ground := Ground.phase }, { on := 16, ground := Ground.phase }, { on := 17, ground := Ground.phase }, { on := 18, ground := Ground.phase }, { on := 19, ground := Ground.phase }, { on := 20, ground := Ground.phase }, { on := 21, ground := Ground.phase }, { on := 22, ground := Ground.phase }, { on := 23, ground := Ground.phase }, { on := 24, ground := Ground.phase }, { on := 25, ground := Ground.phase }, { on := 26, ground := Ground.phase }, { on := 27, ground := Ground.phase }, { on := 28, ground := Ground.phase }, { on := 29, ground := Ground.phase }, { on := 30, ground := Ground.phase }, { on := 31, ground := Ground.phase }, { on := 32, ground := Ground.phase }, { on := 33, ground := Ground.phase }, { on := 34, ground := Ground.phase }], guard := none }) (v := ?_) rfl (by kernel_rfl) (by kernel_rfl) (by kernel_rfl) (fun _ _ _ h => h) (Or.inl ⟨by rfl, ?_⟩) (by assumption) ?_
                rotate_left
                · ((intro w hSw; (try dsimp only at hSw); go_simp); (try with_reducible rfl))
                try simp only [Act.put, List.setIfInBounds_toArray, List.set_cons_zero, List.set_cons_succ]
                refine wpAnyH_done (by kernel_rfl) ?_ _
                go_wp2
                go_ret
                exact ⟨rfl, HB9.out⟩
  · have q3 : decide ((l.length : Int) + 8 > 100) = true := decide_eq_true (by omega)
    go_enter Try.func4, Try.ntmps4
    go_wp2
    go_ret
    exact ⟨rfl, Below.refl _ _⟩
end Go.Proofs.Ytgmjhoekpbomiaa
