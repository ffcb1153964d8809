/- TopMore, walked. -/
import Derived.Test.YtjnbnfmlpdnngaaRnk
namespace Go.Proofs.Ytjnbnfmlpdnngaa
open Go.RowKit Go.Shelf

theorem topMore_plain {words more col : Int} (hw : 0 ≤ words) (hwm : words ≤ more) (hc : col = 2 ∨ col = 3) {ds : List Dd} (hn : ds.length ≤ 100) (h6 : ∀ o ∈ (runs (rstep col words) startX ds).2, o.code ≠ 6) {c d : G}
    (hC : CanonS (gOf (runs (rstep col words) startX ds).1.regs (runs (rstep col words) startX ds).1.os) c) (hD : CanonS (gOf (runs (rstep col more) startX ds).1.regs (runs (rstep col more) startX ds).1.os) d) :
    (runs (rstep col words) startX ds).2 = (runs (rstep col more) startX ds).2 ∧ c = d ∧ (runs (rstep col more) startX ds).1.x.times ≤ (runs (rstep col words) startX ds).1.x.times := by
  obtain ⟨h1, h2⟩ := runs_more hw hwm hc hn h6 ds.length (Nat.le_refl _)
  rw [List.take_length] at h1 h2
  obtain ⟨i, i1, i2, i3⟩ := h2.kin
  exact ⟨h1, kin_canon i1 i2 i3 hC hD, h2.times⟩
set_option maxRecDepth 100000 in
set_option maxHeartbeats 4000000 in
theorem topMore_move (col words : Int) (q : Nat) (hq : q < 256) (hcol : col = 2 ∨ col = 3) (hwd : 1 ≤ words ∧ words ≤ 256) (hmr : words + (q : Int) ≤ 256) (au : Option Addr) (n cu : Nat) (ds : List Dd) (hnn : ds.length = n) (hn : n ≤ 100) (w : World) (hu : IsTup 5 cellsD w (.slice au n cu) ds) (hd : ∀ d ∈ ds, DdOk d) :
    Calls Try.prog 9 #[.int .i64 col, .int .i64 words, .int .u8 (q : Int), .slice au n cu] w fun e w' => e = .returned (.bool true) ∧ Below w.heap.size w w' := by
  have hc3 : 1 ≤ col ∧ col ≤ 3 := by omega
  have HP1 := Lib.hid (rplay_good col words hc3 hwd _ ds n hnn hn w hu hd)
  have Hu := Lib.hid hu
  have Hd := Lib.hid hd
  have Hn := Lib.hid hnn
  have hpl := fun c d h => topMore_plain (words := words) (more := words + (q : Int)) (by omega) (by omega) hcol (ds := ds) (by omega) h (c := c) (d := d)
  have hln : (runs (rstep col words) startX ds).2.length = n := by rw [runs_len]; exact hnn
  have Hpl := Lib.hid hpl
  have Hw := Lib.hid hwd
  have HC3 := Lib.hid hc3
  have e1 : (col == 1) = false := by simp; omega
  have w1 : IntKind.i64.wrap (words + (q : Int)) = words + (q : Int) := IntWalk.i64_in _ (by omega)
  have w0 : IntKind.i64.wrap (q : Int) = (q : Int) := IntWalk.i64_in _ (by omega)
  have e2 : ¬ 256 < words + (q : Int) := by omega
  clear hu hd hnn hpl hwd hcol hc3
  go_enter Try.func9, Try.ntmps9
  go_wp2_with fail
  refine HP1.out.mono ?_
  rintro e w1 ⟨aO, cO, a1, n1, c1, a2, n2, c2, c, rfl, _, hT, hG, hC, hb⟩
  obtain ⟨l, hl⟩ : ∃ l, (runs (rstep col words) startX ds).2 = l := ⟨_, rfl⟩
  obtain ⟨tm, htm⟩ : ∃ tm, (runs (rstep col words) startX ds).1.x.times = tm := ⟨_, rfl⟩
  rw [hl] at hT hln
  rw [hl, htm] at Hpl
  rw [htm]
  have hM2 := ((Mem.start w).call hb).alloc #[.slice aO n cO, .slice a1 n1 c1, .slice a2 n2 c2, .int .i64 tm] 65
  obtain ⟨b1, hb1⟩ : ∃ b1, w1.heap.size = b1 := ⟨_, rfl⟩
  obtain ⟨W1, hW1⟩ : ∃ W1, w1.alloc (.cells #[.slice aO n cO, .slice a1 n1 c1, .slice a2 n2 c2, .int .i64 tm] 65) = W1 := ⟨_, rfl⟩
  have hbW : Below w1.heap.size w1 W1 := by rw [← hW1]; exact (Below.refl _ _).alloc (Nat.le_refl _) _
  rw [hW1, hb1] at hM2
  have HM2 := Lib.hid hM2
  have HT := Lib.hid (hT.later hbW)
  have HG := Lib.hid (hG.later hbW)
  have HC := Lib.hid hC
  have HW1 := Lib.hid hW1
  have Hb1 := Lib.hid hb1
  have Hln := Lib.hid hln
  have HP2 := Lib.hid (rplay_good col (words + (q : Int)) HC3.out (by have := Hw.out; omega) _ ds n Hn.out hn W1 (Hu.out.later hM2.below) Hd.out)
  clear hM2 hT hG hC hl htm hW1 hb1 hb hbW HP1 hln
  go_upto_region 2 with (fail)
  rw [HW1.out, Hb1.out]
  go_wp2_with fail
  refine HP2.out.mono ?_
  rintro e w3 ⟨aP, cP, a3, n3, c3, a4, n4, c4, c', rfl, _, hT2, hG2, hC2, hb2⟩
  obtain ⟨tn, htn⟩ : ∃ tn, (runs (rstep col (words + (q : Int))) startX ds).1.x.times = tn := ⟨_, rfl⟩
  obtain ⟨l2, hl2⟩ : ∃ l2, (runs (rstep col (words + (q : Int))) startX ds).2 = l2 := ⟨_, rfl⟩
  rw [htn, hl2] at Hpl
  rw [hl2] at hT2
  rw [htn]
  have hpl2 := fun h => Hpl.out c c' h HC.out hC2
  have hM4 := (HM2.out.call hb2).alloc #[.slice aP n cP, .slice a3 n3 c3, .slice a4 n4 c4, .int .i64 tn] 65
  obtain ⟨b3, hb3⟩ : ∃ b3, w3.heap.size = b3 := ⟨_, rfl⟩
  obtain ⟨W3, hW3⟩ : ∃ W3, w3.alloc (.cells #[.slice aP n cP, .slice a3 n3 c3, .slice a4 n4 c4, .int .i64 tn] 65) = W3 := ⟨_, rfl⟩
  have hbW : Below w3.heap.size w3 W3 := by rw [← hW3]; exact (Below.refl _ _).alloc (Nat.le_refl _) _
  rw [hW3, hb3] at hM4
  have y0 := hM4.cell 1 rfl 0
  have yb := (hM4.box 1 rfl).2.1
  have HM4 := Lib.hid hM4
  have HTa := Lib.hid ((HT.out.later hb2).later hbW)
  have HTb := Lib.hid (hT2.later hbW)
  have HGa := Lib.hid ((HG.out.later hb2).later hbW)
  have HGb := Lib.hid (hG2.later hbW)
  have HW3 := Lib.hid hW3
  have Hb3 := Lib.hid hb3
  have HQ := Lib.hid hpl2
  clear hM4 hT2 hG2 hC2 htn hl2 hW3 hb3 hb2 hbW HP2 HM2 HT HG Hpl hpl2
  go_upto_region 5 with (fail)
  rw [HW3.out, Hb3.out]
  have q1 : ((n : Int) != (n : Int)) = false := by simp
  go_upto_region 8 with (fail)
  go_loopw [8, 13, 67] (fun _ _ s67 wq => ∃ k : Nat, k ≤ n ∧ s67 = .int .i64 (k : Int) ∧ (∀ o ∈ l.take k, o.code ≠ 6) ∧ Below W3.heap.size W3 wq) (fun _ _ i _ => n - (intOf i).toNat)
  case atStart => exact ⟨0, Nat.zero_le _, rfl, by simp, Below.refl _ _⟩
  case round =>
    clear y0 yb
    obtain ⟨k, hk, rfl, hno, hB⟩ := hrel
    by_cases hlt : k < n
    · obtain ⟨o, ho⟩ := get_some l k (by rw [Hln.out]; exact hlt)
      obtain ⟨b, off, rfl, _, hb2, hc⟩ := HTa.out.at2 hB ho
      obtain ⟨oc, orf, on⟩ := o
      have x0 : wr.cell? ⟨b, off + k * 3, none⟩ = some (.int .i64 oc) := hc 0 _ rfl
      have x1 : wr.cell? ⟨b, off + k * 3 + 1, none⟩ = some (.bool orf) := hc 1 _ rfl
      have x2 : wr.cell? ⟨b, off + k * 3 + 2, none⟩ = some (.int .i64 on) := hc 2 _ rfl
      have hkn : (k : Int) < (n : Int) := by omega
      have HB := Lib.hid (hB.alloc hB.size (.cells #[.int .i64 oc, .bool orf, .int .i64 on] 39))
      have htk := take_succ_some _ _ _ ho
      by_cases h6 : oc = 6
      · subst h6
        have HBf := Lib.hid (HM4.out.call HB.out).below
        clear hc ho hB hno htk
        go_wp2_with fail
        go_ret
        exact ⟨rfl, HBf.out⟩
      · have h6b : (oc == 6) = false := by simpa using h6
        have Hno : Hid (∀ o ∈ l.take (k + 1), o.code ≠ 6) := Lib.hid (by
          rw [htk]
          intro o h
          rcases List.mem_append.1 h with h | h
          · exact hno o h
          · rw [List.mem_singleton] at h; rw [h]; exact h6)
        clear hc ho hB hno htk
        go_wp2_with fail
        go_roundw
        case rel => exact ⟨k + 1, by omega, by go_num, Hno.out, HB.out⟩
        case measure => simp [intOf]; omega
    · obtain rfl : k = n := by omega
      rw [List.take_of_length_le (by rw [Hln.out]; exact Nat.le_refl _)] at hno
      obtain ⟨h1, rfl, h3⟩ := HQ.out hno
      have hMr := HM4.out.call hB
      have x0 := hMr.cell 0 rfl 0
      have xb := (hMr.box 0 rfl).2.1
      have y0 := hMr.cell 1 rfl 0
      have yb := (hMr.box 1 rfl).2.1
      have hTb := HTb.out.later hB
      rw [← h1] at hTb
      have HO := Lib.hid (outs_yes _ _ l wr (HTa.out.later hB) hTb)
      have HMr := Lib.hid hMr
      have HB := Lib.hid hB
      clear hMr hTb h1 hB hno HM4
      go_wp2_with fail
      refine HO.out.mono ?_
      rintro e w5 ⟨rfl, hb5⟩
      have hM5 := HMr.out.call hb5
      have z1 := hM5.cell 0 rfl 1
      have z2 := hM5.cell 0 rfl 2
      have zb := (hM5.box 0 rfl).2.1
      have v1 := hM5.cell 1 rfl 1
      have v2 := hM5.cell 1 rfl 2
      have vb := (hM5.box 1 rfl).2.1
      have HS := Lib.hid (graphs_same _ _ c w5 ((HGa.out.later HB.out).later hb5) ((HGb.out.later HB.out).later hb5))
      have HM5 := Lib.hid hM5
      clear hM5 hb5 HO HMr HGa HGb
      go_wp2_with fail
      refine HS.out.mono ?_
      rintro e w6 ⟨rfl, hb6⟩
      have hM6 := HM5.out.call hb6
      have t3 := hM6.cell 0 rfl 3
      have tb := (hM6.box 0 rfl).2.1
      have u3 := hM6.cell 1 rfl 3
      have ub := (hM6.box 1 rfl).2.1
      have HM6 := Lib.hid hM6
      clear hM6 hb6
      go_wp2_with fail
      go_ret
      exact ⟨rfl, HM6.out.below⟩
set_option maxRecDepth 100000 in
set_option maxHeartbeats 4000000 in
theorem topMore_sweep (col words : Int) (q : Nat) (hq : q < 256) (hcol : 1 ≤ col ∧ col ≤ 3) (hwd : 1 ≤ words ∧ words ≤ 256) (hk : 256 < words + (q : Int) ∨ col = 1) (au : Option Addr) (n cu : Nat) (ds : List Dd) (hnn : ds.length = n) (hn : n ≤ 100) (w : World) (hu : IsTup 5 cellsD w (.slice au n cu) ds) (hd : ∀ d ∈ ds, DdOk d) :
    Calls Try.prog 9 #[.int .i64 col, .int .i64 words, .int .u8 (q : Int), .slice au n cu] w fun e w' => e = .returned (.bool true) ∧ Below w.heap.size w w' := by
  have HP1 := Lib.hid (rplay_good col words hcol hwd _ ds n hnn hn w hu hd)
  have w1 : IntKind.i64.wrap (words + (q : Int)) = words + (q : Int) := IntWalk.i64_in _ (by omega)
  have w0 : IntKind.i64.wrap (q : Int) = (q : Int) := IntWalk.i64_in _ (by omega)
  have q1 : ((n : Int) == (n : Int)) = true := by simp
  clear hu hd hnn
  by_cases hm : 256 < words + (q : Int)
  · clear hk
    go_enter Try.func9, Try.ntmps9
    go_wp2_with fail
    refine HP1.out.mono ?_
    rintro e w1 ⟨aO, cO, a1, n1, c1, a2, n2, c2, c, rfl, _, _, _, _, hb⟩
    obtain ⟨tm, htm⟩ : ∃ tm, (runs (rstep col words) startX ds).1.x.times = tm := ⟨_, rfl⟩
    rw [htm]
    have HM2 := Lib.hid (((Mem.start w).call hb).alloc #[.slice aO n cO, .slice a1 n1 c1, .slice a2 n2 c2, .int .i64 tm] 65)
    clear hb htm
    go_wp2_with fail
    go_ret
    exact ⟨rfl, HM2.out.below⟩
  · have hc1 : col = 1 := hk.resolve_left hm
    subst hc1
    clear hk
    go_enter Try.func9, Try.ntmps9
    go_wp2_with fail
    refine HP1.out.mono ?_
    rintro e w1 ⟨aO, cO, a1, n1, c1, a2, n2, c2, c, rfl, _, _, _, _, hb⟩
    obtain ⟨tm, htm⟩ : ∃ tm, (runs (rstep 1 words) startX ds).1.x.times = tm := ⟨_, rfl⟩
    rw [htm]
    have HM2 := Lib.hid (((Mem.start w).call hb).alloc #[.slice aO n cO, .slice a1 n1 c1, .slice a2 n2 c2, .int .i64 tm] 65)
    clear hb htm
    go_wp2_with fail
    go_ret
    exact ⟨rfl, HM2.out.below⟩
set_option maxRecDepth 100000 in
set_option maxHeartbeats 4000000 in
theorem topMore_bad (col words : Int) (q : Nat) (au : Option Addr) (n cu : Nat) (w : World) (hk : rcode col words n ≠ 0) :
    Calls Try.prog 9 #[.int .i64 col, .int .i64 words, .int .u8 (q : Int), .slice au n cu] w fun e w' => e = .returned (.bool true) ∧ Below w.heap.size w w' := by
  have HP1 := Lib.hid (rplay_no col words au n cu w hk)
  obtain ⟨c, hc⟩ : ∃ c, rcode col words n = c := ⟨_, rfl⟩
  rw [hc] at HP1 hk
  have hcb : (c != 0) = true := by simpa using hk
  clear hc
  go_enter Try.func9, Try.ntmps9
  go_wp2_with fail
  refine HP1.out.mono ?_
  rintro e w1 ⟨rfl, hb⟩
  have HM2 := Lib.hid (((Mem.start w).call hb).alloc #[.slice none 0 0, .slice none 0 0, .slice none 0 0, .int .i64 0] 65)
  clear hb
  go_wp2_with fail
  go_ret
  exact ⟨rfl, HM2.out.below⟩
theorem topMore_walk (W : World) (v0 v1 v2 v3 : Value) (g0 : ∃ x : Int, v0 = .int .i64 x ∧ i64ok x) (g1 : ∃ x : Int, v1 = .int .i64 x ∧ i64ok x) (g2 : ∃ k : Nat, v2 = .int .u8 (k : Int) ∧ k < 256) (g3 : ∃ l : List Dd, ((IsTup 5 cellsD W v3 l ∧ ∀ d ∈ l, DdOk d) ∧ l.length ≤ 17592186044416) ∧ ∃ a c, v3 = .slice a l.length c ∧ l.length ≤ c) :
    Calls Try.prog 9 #[v0, v1, v2, v3] W fun e w' => e = .returned (.bool true) ∧ Below W.heap.size W w' := by
  obtain ⟨col, rfl, _⟩ := g0
  obtain ⟨words, rfl, _⟩ := g1
  obtain ⟨q, rfl, hq⟩ := g2
  obtain ⟨ds, ⟨⟨hu, hd⟩, _⟩, a, c, rfl, _⟩ := g3
  by_cases hk : rcode col words ds.length = 0
  · obtain ⟨h1, h2, h3⟩ := rcode_zero.1 hk
    by_cases h4 : 256 < words + (q : Int) ∨ col = 1
    · exact topMore_sweep col words q hq h1 h2 h4 a _ c ds rfl h3 W hu hd
    · exact topMore_move col words q hq (by omega) h2 (by omega) a _ c ds rfl h3 W hu hd
  · exact topMore_bad col words q a _ c W hk
end Go.Proofs.Ytjnbnfmlpdnngaa
