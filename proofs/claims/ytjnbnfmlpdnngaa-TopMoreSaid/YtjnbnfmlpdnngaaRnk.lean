/- TopAlike, walked. -/
import Derived.Test.YtjnbnfmlpdnngaaRnj
import Derived.Test.YtjnbnfmlpdnngaaVa
import Derived.Test.YtjnbnfmlpdnngaaS1
namespace Go.Proofs.Ytjnbnfmlpdnngaa
open Go.RowKit Go.Shelf

theorem rnilG_is (w : World) : IsGraph w (.agg #[.slice none 0 0, .slice none 0 0]) ⟨[], []⟩ := ⟨_, _, rfl, ⟨none, 0, rfl, by simp, by simp⟩, ⟨none, 0, rfl, by simp, by simp⟩⟩
theorem rnilT_is (w : World) : IsTup 3 cellsO w (.slice none 0 0) [] := ⟨none, 0, rfl, by simp, by simp⟩
set_option maxRecDepth 100000 in
set_option maxHeartbeats 4000000 in
theorem topAlike_good (words : Int) (hwd : 1 ≤ words ∧ words ≤ 256) (au : Option Addr) (n cu : Nat) (ds : List Dd) (hnn : ds.length = n) (hn : n ≤ 100) (w : World) (hu : IsTup 5 cellsD w (.slice au n cu) ds) (hd : ∀ d ∈ ds, DdOk d) :
    Calls Try.prog 8 #[.int .i64 words, .slice au n cu] w fun e w' => e = .returned (.bool true) ∧ Below w.heap.size w w' := by
  have HP1 := Lib.hid (rplay_good 2 words (by decide) hwd _ ds n hnn hn w hu hd)
  have Hu := Lib.hid hu
  have Hd := Lib.hid hd
  have Hn := Lib.hid hnn
  have hal := runs_alike (words := words) (by omega) (ds := ds) (by omega) ds.length (Nat.le_refl _)
  rw [List.take_length] at hal
  have Hal := Lib.hid hal
  have Hw := Lib.hid hwd
  clear hu hd hnn hal hwd
  go_enter Try.func8, Try.ntmps8
  go_wp2_with fail
  refine HP1.out.mono ?_
  rintro e w1 ⟨aO, cO, a1, n1, c1, a2, n2, c2, c, rfl, _, hT, hG, hC, hb⟩
  obtain ⟨l, hl⟩ : ∃ l, (runs (rstep 2 words) startX ds).2 = l := ⟨_, rfl⟩
  obtain ⟨tm, htm⟩ : ∃ tm, (runs (rstep 2 words) startX ds).1.x.times = tm := ⟨_, rfl⟩
  rw [hl] at hT
  rw [htm]
  have hM2 := ((Mem.start w).call hb).alloc #[.slice aO n cO, .slice a1 n1 c1, .slice a2 n2 c2, .int .i64 tm] 65
  obtain ⟨b1, hb1⟩ : ∃ b1, w1.heap.size = b1 := ⟨_, rfl⟩
  obtain ⟨W1, hW1⟩ : ∃ W1, w1.alloc (.cells #[.slice aO n cO, .slice a1 n1 c1, .slice a2 n2 c2, .int .i64 tm] 65) = W1 := ⟨_, rfl⟩
  have hbW : Below w1.heap.size w1 W1 := by rw [← hW1]; exact (Below.refl _ _).alloc (Nat.le_refl _) _
  rw [hW1, hb1] at hM2
  have HM2 := Lib.hid hM2
  have HT := Lib.hid (hT.later hbW)
  have HG := Lib.hid (hG.later hbW)
  have HC := Lib.hid hC
  have Hl := Lib.hid hl
  have HW1 := Lib.hid hW1
  have Hb1 := Lib.hid hb1
  have HP2 := Lib.hid (rplay_good 3 words (by decide) Hw.out _ ds n Hn.out hn W1 (Hu.out.later hM2.below) Hd.out)
  clear hM2 hT hG hC hl htm hW1 hb1 hb hbW HP1
  go_upto_region 2 with (fail)
  rw [HW1.out, Hb1.out]
  go_wp2_with fail
  refine HP2.out.mono ?_
  rintro e w3 ⟨aP, cP, a3, n3, c3, a4, n4, c4, c', rfl, _, hT2, hG2, hC2, hb2⟩
  have hcc : c = c' := by
    refine HC.out.unique ?_
    rw [Hal.out.2.regs, Hal.out.2.os]; exact hC2
  subst hcc
  rw [← Hal.out.1, Hl.out] at hT2
  obtain ⟨tn, htn⟩ : ∃ tn, (runs (rstep 3 words) startX ds).1.x.times = tn := ⟨_, rfl⟩
  rw [htn]
  have hM4 := (HM2.out.call hb2).alloc #[.slice aP n cP, .slice a3 n3 c3, .slice a4 n4 c4, .int .i64 tn] 65
  obtain ⟨b3, hb3⟩ : ∃ b3, w3.heap.size = b3 := ⟨_, rfl⟩
  obtain ⟨W3, hW3⟩ : ∃ W3, w3.alloc (.cells #[.slice aP n cP, .slice a3 n3 c3, .slice a4 n4 c4, .int .i64 tn] 65) = W3 := ⟨_, rfl⟩
  have hbW : Below w3.heap.size w3 W3 := by rw [← hW3]; exact (Below.refl _ _).alloc (Nat.le_refl _) _
  rw [hW3, hb3] at hM4
  have x0 := hM4.cell 0 rfl 0
  have xb := (hM4.box 0 rfl).2.1
  have y0 := hM4.cell 1 rfl 0
  have yb := (hM4.box 1 rfl).2.1
  have HM4 := Lib.hid hM4
  have HO := Lib.hid (outs_yes _ _ l W3 ((HT.out.later hb2).later hbW) (hT2.later hbW))
  have HGa := Lib.hid ((HG.out.later hb2).later hbW)
  have HGb := Lib.hid (hG2.later hbW)
  have HW3 := Lib.hid hW3
  have Hb3 := Lib.hid hb3
  clear hM4 hT2 hG2 hC2 htn hW3 hb3 hb2 hbW HP2 HM2 HT HG
  go_upto_region 3 with (fail)
  rw [HW3.out, Hb3.out]
  have q1 : ((n : Int) == (n : Int)) = true := by simp
  go_wp2_with fail
  refine HO.out.mono ?_
  rintro e w5 ⟨rfl, hb5⟩
  have hM5 := HM4.out.call hb5
  have z1 := hM5.cell 0 rfl 1
  have z2 := hM5.cell 0 rfl 2
  have zb := (hM5.box 0 rfl).2.1
  have v1 := hM5.cell 1 rfl 1
  have v2 := hM5.cell 1 rfl 2
  have vb := (hM5.box 1 rfl).2.1
  have HS := Lib.hid (graphs_same _ _ c w5 (HGa.out.later hb5) (HGb.out.later hb5))
  have HM5 := Lib.hid hM5
  clear hM5 hb5 HO HM4 HGa HGb
  go_wp2_with fail
  refine HS.out.mono ?_
  rintro e w6 ⟨rfl, hb6⟩
  have HM6 := Lib.hid (HM5.out.call hb6)
  clear hb6
  go_wp2_with fail
  go_ret
  exact ⟨rfl, HM6.out.below⟩
set_option maxRecDepth 100000 in
set_option maxHeartbeats 4000000 in
theorem topAlike_bad (words : Int) (au : Option Addr) (n cu : Nat) (w : World) (hk : ¬ ((1 ≤ words ∧ words ≤ 256) ∧ n ≤ 100)) :
    Calls Try.prog 8 #[.int .i64 words, .slice au n cu] w fun e w' => e = .returned (.bool true) ∧ Below w.heap.size w w' := by
  have hc2 : rcode 2 words n ≠ 0 := fun h => hk (rcode_zero.1 h).2
  have he : rcode 3 words n = rcode 2 words n := by unfold rcode; rw [if_pos (show (1 : Int) ≤ 3 ∧ (3 : Int) ≤ 3 by decide), if_pos (show (1 : Int) ≤ 2 ∧ (2 : Int) ≤ 3 by decide)]
  have HP1 := Lib.hid (rplay_no 2 words au n cu w hc2)
  have HP2 := Lib.hid (fun W => rplay_no 3 words au n cu W (by rw [he]; exact hc2))
  rw [he] at HP2
  obtain ⟨c, hc⟩ : ∃ c, rcode 2 words n = c := ⟨_, rfl⟩
  rw [hc] at HP1 HP2 hc2
  have hcb : (c != 0) = true := by simpa using hc2
  have hcc : (c == c) = true := by simp
  clear hk he hc
  go_enter Try.func8, Try.ntmps8
  go_wp2_with fail
  refine HP1.out.mono ?_
  rintro e w1 ⟨rfl, hb⟩
  have hM2 := ((Mem.start w).call hb).alloc #[.slice none 0 0, .slice none 0 0, .slice none 0 0, .int .i64 0] 65
  obtain ⟨b1, hb1⟩ : ∃ b1, w1.heap.size = b1 := ⟨_, rfl⟩
  obtain ⟨W1, hW1⟩ : ∃ W1, w1.alloc (.cells #[.slice none 0 0, .slice none 0 0, .slice none 0 0, .int .i64 0] 65) = W1 := ⟨_, rfl⟩
  rw [hW1, hb1] at hM2
  have HM2 := Lib.hid hM2
  have HW1 := Lib.hid hW1
  have Hb1 := Lib.hid hb1
  clear hM2 hW1 hb1 hb HP1
  go_upto_region 2 with (fail)
  rw [HW1.out, Hb1.out]
  go_wp2_with fail
  refine (HP2.out _).mono ?_
  rintro e w3 ⟨rfl, hb2⟩
  have hM4 := (HM2.out.call hb2).alloc #[.slice none 0 0, .slice none 0 0, .slice none 0 0, .int .i64 0] 65
  obtain ⟨b3, hb3⟩ : ∃ b3, w3.heap.size = b3 := ⟨_, rfl⟩
  obtain ⟨W3, hW3⟩ : ∃ W3, w3.alloc (.cells #[.slice none 0 0, .slice none 0 0, .slice none 0 0, .int .i64 0] 65) = W3 := ⟨_, rfl⟩
  rw [hW3, hb3] at hM4
  have x0 := hM4.cell 0 rfl 0
  have xb := (hM4.box 0 rfl).2.1
  have y0 := hM4.cell 1 rfl 0
  have yb := (hM4.box 1 rfl).2.1
  have HM4 := Lib.hid hM4
  have HO := Lib.hid (outs_yes _ _ [] W3 (rnilT_is _) (rnilT_is _))
  have HW3 := Lib.hid hW3
  have Hb3 := Lib.hid hb3
  clear hM4 hW3 hb3 hb2 HP2 HM2
  go_upto_region 3 with (fail)
  rw [HW3.out, Hb3.out]
  go_wp2_with fail
  refine HO.out.mono ?_
  rintro e w5 ⟨rfl, hb5⟩
  have hM5 := HM4.out.call hb5
  have z1 := hM5.cell 0 rfl 1
  have z2 := hM5.cell 0 rfl 2
  have zb := (hM5.box 0 rfl).2.1
  have v1 := hM5.cell 1 rfl 1
  have v2 := hM5.cell 1 rfl 2
  have vb := (hM5.box 1 rfl).2.1
  have HS := Lib.hid (graphs_same _ _ ⟨[], []⟩ w5 (rnilG_is _) (rnilG_is _))
  have HM5 := Lib.hid hM5
  clear hM5 hb5 HO HM4
  go_wp2_with fail
  refine HS.out.mono ?_
  rintro e w6 ⟨rfl, hb6⟩
  have HM6 := Lib.hid (HM5.out.call hb6)
  clear hb6
  go_wp2_with fail
  go_ret
  exact ⟨rfl, HM6.out.below⟩
theorem topAlike_walk (W : World) (v0 v1 : Value) (g0 : ∃ x : Int, v0 = .int .i64 x ∧ i64ok x) (g1 : ∃ l : List Dd, ((IsTup 5 cellsD W v1 l ∧ ∀ d ∈ l, DdOk d) ∧ l.length ≤ 17592186044416) ∧ ∃ a c, v1 = .slice a l.length c ∧ l.length ≤ c) :
    Calls Try.prog 8 #[v0, v1] W fun e w' => e = .returned (.bool true) ∧ Below W.heap.size W w' := by
  obtain ⟨words, rfl, _⟩ := g0
  obtain ⟨ds, ⟨⟨hu, hd⟩, _⟩, a, c, rfl, _⟩ := g1
  by_cases hk : (1 ≤ words ∧ words ≤ 256) ∧ ds.length ≤ 100
  · exact topAlike_good words hk.1 a _ c ds rfl hk.2 W hu hd
  · exact topAlike_bad words a _ c W hk
end Go.Proofs.Ytjnbnfmlpdnngaa
