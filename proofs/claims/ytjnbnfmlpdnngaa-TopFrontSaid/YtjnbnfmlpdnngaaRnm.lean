/- TopFront, walked. -/
import Derived.Test.YtjnbnfmlpdnngaaRnj
import Derived.Test.YtjnbnfmlpdnngaaBase10
import Derived.Deep.RegionHeld3
namespace Go.Proofs.Ytjnbnfmlpdnngaa
open Go.RowKit Go.Shelf

set_option maxRecDepth 100000 in
set_option maxHeartbeats 4000000 in
theorem topFront_good (col words : Int) (hcol : 1 ≤ col ∧ col ≤ 3) (hwd : 1 ≤ words ∧ words ≤ 256) (au : Option Addr) (L cu : Nat) (hcu : L ≤ cu) (ds : List Dd) (hL : ds.length = L) (hn : L ≤ 100) (q : Nat) (hq : q < 256) (w : World) (hu : IsTup 5 cellsD w (.slice au L cu) ds) (hd : ∀ d ∈ ds, DdOk d) :
    Calls Try.prog 10 #[.int .i64 col, .int .i64 words, .slice au L cu, .int .u8 (q : Int)] w fun e w' => e = .returned (.bool true) ∧ Below w.heap.size w w' := by
  obtain ⟨n, hn'⟩ : ∃ n, q % (L + 1) = n := ⟨_, rfl⟩
  have hnL : n ≤ L := by rw [← hn']; have := Nat.mod_lt q (show 0 < L + 1 by omega); omega
  have hln : (ds.take n).length = n := by rw [List.length_take]; omega
  have hun : IsTup 5 cellsD w (.slice au n cu) (ds.take n) := by
    have h0 := hu
    rw [← hL] at h0
    exact isTup_take h0 n (by omega)
  have hdn : ∀ d ∈ ds.take n, DdOk d := fun d h => hd d (List.mem_of_mem_take h)
  have HP1 := Lib.hid (rplay_good col words hcol hwd _ ds L hL hn w hu hd)
  have HP2 := Lib.hid (fun W (hW : Below w.heap.size w W) => rplay_good col words hcol hwd _ (ds.take n) n hln (by omega) W (hun.later hW) hdn)
  have hout := runs_front (rstep col words) startX ds n
  have hlo1 : (runs (rstep col words) startX ds).2.length = L := by rw [runs_len]; exact hL
  have hlo2 : (runs (rstep col words) startX (ds.take n)).2.length = n := by rw [runs_len]; exact hln
  have htm : (runs (rstep col words) startX (ds.take n)).1.x.times ≤ (runs (rstep col words) startX ds).1.x.times := by
    have := runsX_times (words := words) (by omega) col (ds := ds) (by omega) n (L - n) (by omega)
    rwa [show n + (L - n) = L by omega, ← hL, List.take_length] at this
  obtain ⟨O1, hO1⟩ : ∃ O1, (runs (rstep col words) startX ds).2 = O1 := ⟨_, rfl⟩
  obtain ⟨O2, hO2⟩ : ∃ O2, (runs (rstep col words) startX (ds.take n)).2 = O2 := ⟨_, rfl⟩
  obtain ⟨t1, ht1⟩ : ∃ t1, (runs (rstep col words) startX ds).1.x.times = t1 := ⟨_, rfl⟩
  obtain ⟨t2, ht2⟩ : ∃ t2, (runs (rstep col words) startX (ds.take n)).1.x.times = t2 := ⟨_, rfl⟩
  unfold RGood at HP1 HP2
  rw [hO1, ht1] at HP1
  rw [hO2, ht2] at HP2
  rw [hO1, hO2] at hout
  rw [hO1] at hlo1
  rw [hO2] at hlo2
  rw [ht1, ht2] at htm
  have Hout := Lib.hid hout
  have Hlo := Lib.hid (And.intro hlo1 hlo2)
  have hmod : ((q : Int) % ((L : Int) + 1)) = (n : Int) := by rw [← hn']; simp
  have htmod : ((q : Int).tmod ((L : Int) + 1)) = (n : Int) := by rw [Int.tmod_eq_emod_of_nonneg (by omega)]; exact hmod
  have hncl : n ≤ cu := by omega
  have hL0 : ¬ (L : Int) + 1 = 0 := by omega
  clear hu hd hun hdn hL hln hn' hlo1 hlo2 hout hO1 hO2 ht1 ht2 hcol hwd
  go_enter Try.func10, Try.ntmps10
  go_wp2_with fail
  refine HP1.out.mono ?_
  rintro e w1 ⟨aO, cO, a1, n1, c1, a2, n2, c2, c, rfl, hcO, hT, _, _, hb⟩
  have hM2 := ((Mem.start w).call hb).alloc #[.slice aO L cO, .slice a1 n1 c1, .slice a2 n2 c2, .int .i64 t1] 65
  obtain ⟨b1, hb1⟩ : ∃ b1, w1.heap.size = b1 := ⟨_, rfl⟩
  obtain ⟨W1, hW1⟩ : ∃ W1, w1.alloc (.cells #[.slice aO L cO, .slice a1 n1 c1, .slice a2 n2 c2, .int .i64 t1] 65) = W1 := ⟨_, rfl⟩
  have hbW : Below w1.heap.size w1 W1 := by rw [← hW1]; exact (Below.refl _ _).alloc (Nat.le_refl _) _
  rw [hW1, hb1] at hM2
  have HM2 := Lib.hid hM2
  have HT := Lib.hid (hT.later hbW)
  have HW1 := Lib.hid hW1
  have Hb1 := Lib.hid hb1
  have HP3 := Lib.hid (HP2.out W1 hM2.below)
  clear hM2 hT hW1 hb1 hb hbW HP1 HP2
  go_upto_region 4 with (fail)
  rw [HW1.out, Hb1.out]
  go_wp2_with fail
  refine HP3.out.mono ?_
  rintro e w3 ⟨aP, cP, a3, n3, c3, a4, n4, c4, c', rfl, _, hT2, _, _, hb2⟩
  have hM4 := (HM2.out.call hb2).alloc #[.slice aP n cP, .slice a3 n3 c3, .slice a4 n4 c4, .int .i64 t2] 65
  obtain ⟨b3, hb3⟩ : ∃ b3, w3.heap.size = b3 := ⟨_, rfl⟩
  obtain ⟨W3, hW3⟩ : ∃ W3, w3.alloc (.cells #[.slice aP n cP, .slice a3 n3 c3, .slice a4 n4 c4, .int .i64 t2] 65) = W3 := ⟨_, rfl⟩
  have hbW : Below w3.heap.size w3 W3 := by rw [← hW3]; exact (Below.refl _ _).alloc (Nat.le_refl _) _
  rw [hW3, hb3] at hM4
  have hTa := (HT.out.later hb2).later hbW
  have hTb := hT2.later hbW
  have hTn : IsTup 3 cellsO W3 (.slice aO n cO) O2 := by
    have h0 := hTa
    rw [← Hlo.out.1] at h0
    have h1 := isTup_take h0 n (by rw [Hlo.out.1]; omega)
    have h2 : O2 = O1.take n := by rw [← Hlo.out.2]; exact List.prefix_iff_eq_take.1 Hout.out
    rw [← h2] at h1
    exact h1
  have HO : Hid (∀ X, Below W3.heap.size W3 X → Calls Try.prog 30 #[.slice aO n cO, .slice aP n cP] X fun e w' => e = .returned (.bool true) ∧ Below X.heap.size X w') := Lib.hid fun X hX => outs_yes _ _ O2 X (hTn.later hX) (hTb.later hX)
  have x0 := hM4.cell 0 rfl 0
  have x3 := hM4.cell 0 rfl 3
  have xb := (hM4.box 0 rfl).2.1
  have y0 := hM4.cell 1 rfl 0
  have y3 := hM4.cell 1 rfl 3
  have yb := (hM4.box 1 rfl).2.1
  have HM4 := Lib.hid hM4
  have HW3 := Lib.hid hW3
  have Hb3 := Lib.hid hb3
  have q1 : ((L : Int) == (L : Int)) = true := by simp
  have q4 : decide (t2 ≤ t1) = true := by simpa using htm
  have q6 : n ≤ cO := by omega
  have q7 : (n : Int) ≤ (cO : Int) := by omega
  clear hM4 hT2 hW3 hb3 hb2 hbW HP3 HM2 HT hTa hTb hTn
  go_upto_region 6 with (fail)
  rw [HW3.out, Hb3.out]
  go_region_held3 (fun X => (X.cell? ⟨b1, 0, none⟩ = some (.slice aO L cO) ∧ X.cell? ⟨b1, 3, none⟩ = some (.int .i64 t1)) ∧ X.cell? ⟨b3, 0, none⟩ = some (.slice aP n cP) ∧ X.cell? ⟨b3, 3, none⟩ = some (.int .i64 t2))
    (first | exact ⟨⟨((show Below W3.heap.size W3 _ from (by repeat (first | exact Below.refl _ _ | assumption | refine Below.setCell ?_ (by first | exact Nat.le_refl _ | (simp; done) | (simp; omega) | (simp at *; omega)) _ | refine Below.alloc ?_ (by first | exact Nat.le_refl _ | (simp; done) | (simp; omega) | (simp at *; omega)) _ | refine Below.drew ?_))).cell (p := ⟨_, _, none⟩) yb).trans y0, ((show Below W3.heap.size W3 _ from (by repeat (first | exact Below.refl _ _ | assumption | refine Below.setCell ?_ (by first | exact Nat.le_refl _ | (simp; done) | (simp; omega) | (simp at *; omega)) _ | refine Below.alloc ?_ (by first | exact Nat.le_refl _ | (simp; done) | (simp; omega) | (simp at *; omega)) _ | refine Below.drew ?_))).cell (p := ⟨_, _, none⟩) yb).trans y3⟩, ((show Below W3.heap.size W3 _ from (by repeat (first | exact Below.refl _ _ | assumption | refine Below.setCell ?_ (by first | exact Nat.le_refl _ | (simp; done) | (simp; omega) | (simp at *; omega)) _ | refine Below.alloc ?_ (by first | exact Nat.le_refl _ | (simp; done) | (simp; omega) | (simp at *; omega)) _ | refine Below.drew ?_))).cell (p := ⟨_, _, none⟩) xb).trans x0, ((show Below W3.heap.size W3 _ from (by repeat (first | exact Below.refl _ _ | assumption | refine Below.setCell ?_ (by first | exact Nat.le_refl _ | (simp; done) | (simp; omega) | (simp at *; omega)) _ | refine Below.alloc ?_ (by first | exact Nat.le_refl _ | (simp; done) | (simp; omega) | (simp at *; omega)) _ | refine Below.drew ?_))).cell (p := ⟨_, _, none⟩) xb).trans x3⟩ | fail)
    (first
      | (go_at_call 30
         with_reducible refine (HO.out _ (by repeat (first | exact Below.refl _ _ | assumption | refine Below.setCell ?_ (by first | exact Nat.le_refl _ | (simp; done) | (simp; omega) | (simp at *; omega)) _ | refine Below.alloc ?_ (by first | exact Nat.le_refl _ | (simp; done) | (simp; omega) | (simp at *; omega)) _ | refine Below.drew ?_))).mono ?_
         rintro e w5 ⟨rfl, hb5⟩
         have hB5 : Below W3.heap.size W3 w5 := by
           refine (show Below W3.heap.size W3 _ → _ from fun h => h.trans (hb5.mono h.size)) ?_
           exact (by repeat (first | exact Below.refl _ _ | assumption | refine Below.setCell ?_ (by first | exact Nat.le_refl _ | (simp; done) | (simp; omega) | (simp at *; omega)) _ | refine Below.alloc ?_ (by first | exact Nat.le_refl _ | (simp; done) | (simp; omega) | (simp at *; omega)) _ | refine Below.drew ?_)))
      | fail)
  all_goals
    go_wp2
    go_ret
    exact ⟨rfl, HM4.out.below.trans (hB5.mono HM4.out.below.size)⟩
set_option maxRecDepth 100000 in
set_option maxHeartbeats 4000000 in
theorem topFront_bad (col words : Int) (q : Nat) (au : Option Addr) (n cu : Nat) (w : World) (hk : rcode col words n ≠ 0) :
    Calls Try.prog 10 #[.int .i64 col, .int .i64 words, .slice au n cu, .int .u8 (q : Int)] w fun e w' => e = .returned (.bool true) ∧ Below w.heap.size w w' := by
  have HP1 := Lib.hid (rplay_no col words au n cu w hk)
  obtain ⟨c, hc⟩ : ∃ c, rcode col words n = c := ⟨_, rfl⟩
  rw [hc] at HP1 hk
  have hcb : (c != 0) = true := by simpa using hk
  clear hc
  go_enter Try.func10, Try.ntmps10
  go_wp2_with fail
  refine HP1.out.mono ?_
  rintro e w1 ⟨rfl, hb⟩
  have HM2 := Lib.hid (((Mem.start w).call hb).alloc #[.slice none 0 0, .slice none 0 0, .slice none 0 0, .int .i64 0] 65)
  clear hb
  go_wp2_with fail
  go_ret
  exact ⟨rfl, HM2.out.below⟩
theorem topFront_walk (W : World) (v0 v1 v2 v3 : Value) (g0 : ∃ x : Int, v0 = .int .i64 x ∧ i64ok x) (g1 : ∃ x : Int, v1 = .int .i64 x ∧ i64ok x) (g2 : ∃ l : List Dd, ((IsTup 5 cellsD W v2 l ∧ ∀ d ∈ l, DdOk d) ∧ l.length ≤ 17592186044416) ∧ ∃ a c, v2 = .slice a l.length c ∧ l.length ≤ c) (g3 : ∃ k : Nat, v3 = .int .u8 (k : Int) ∧ k < 256) :
    Calls Try.prog 10 #[v0, v1, v2, v3] W fun e w' => e = .returned (.bool true) ∧ Below W.heap.size W w' := by
  obtain ⟨col, rfl, _⟩ := g0
  obtain ⟨words, rfl, _⟩ := g1
  obtain ⟨ds, ⟨⟨hu, hd⟩, _⟩, a, c, rfl, hc⟩ := g2
  obtain ⟨q, rfl, hq⟩ := g3
  by_cases hk : rcode col words ds.length = 0
  · obtain ⟨h1, h2, h3⟩ := rcode_zero.1 hk
    exact topFront_good col words h1 h2 a _ c hc ds rfl h3 q hq W hu hd
  · exact topFront_bad col words q a _ c W hk
end Go.Proofs.Ytjnbnfmlpdnngaa
