/- Graphs as bytes: bytesOf, Put, walked. -/
import Derived.Test.YtelhjcifiahahaaI4
namespace Go.Proofs.Ytelhjcifiahahaa
open Go.RowKit

theorem isTup_list {w : World} {α : Type} {sz : Nat} {enc : α → List Value} (hz : ∀ x, (enc x).length = sz) (xs : List α) (c : Array Value) (hc : c.toList = xs.flatMap enc) (hl : xs.length ≤ 1000000) (n cap : Nat) (hn : n = xs.length) (ty : TypeId) : IsTup sz enc (w.alloc (.cells c ty)) (.slice (some ⟨w.heap.size, 0, none⟩) n cap) xs := by
  subst hn
  refine ⟨_, cap, rfl, by omega, fun k y hy => ?_⟩
  refine ⟨w.heap.size, 0, rfl, by simp, fun j u hu => ?_⟩
  simp only [Nat.zero_add]
  rw [World.cell?_alloc_new]
  have h1 := getElem_tup hz xs k y hy j u hu
  rw [← hc] at h1
  simpa using h1
set_option maxRecDepth 100000 in
set_option maxHeartbeats 1000000 in
theorem bytesOf_any (w : World) (gv : Value) (g : G) (hg : IsGraph w gv g) (hr : g.roots.length ≤ 8) (ho : g.objs.length ≤ 24) (hf : ∀ o ∈ g.objs, o.length ≤ 4) :
    Calls Try.prog 22 #[gv] w fun e w' => ∃ v, e = .returned v ∧ Mem w.heap.size w w' [rowY v (graphB g)] := by
  have hlen := body_len hr ho hf hg.ok
  obtain ⟨vo, vr, rfl, hO, hR⟩ := hg
  obtain ⟨ao, co, rfl, hom⟩ := hO.slice
  obtain ⟨ar, cr, rfl, hrm⟩ := hR.slice
  have hM0 := ((Mem.start w).alloc #[.slice ao g.objs.length co, .slice ar g.roots.length cr] 25).nilT 5 1 encY
  obtain ⟨W, hW⟩ : ∃ W, w.alloc (.cells #[.slice ao g.objs.length co, .slice ar g.roots.length cr] 25) = W := ⟨_, rfl⟩
  obtain ⟨bg, hbg⟩ : ∃ bg, w.heap.size = bg := ⟨_, rfl⟩
  have HO := Lib.hid hO
  have HR := Lib.hid (listV_any w W (.slice none 0 0) [] _ g.roots [ebox w.heap.size #[.slice ao g.objs.length co, .slice ar g.roots.length cr] 25] (by rw [← hW]; exact hM0) hR (by omega) (by simp))
  have g0 : W.cell? ⟨bg, 0, none⟩ = some (.slice ao g.objs.length co) := by rw [← hW, ← hbg]; simp
  have g1 : W.cell? ⟨bg, 1, none⟩ = some (.slice ar g.roots.length cr) := by rw [← hW, ← hbg]; simp
  have gz : bg < W.heap.size := by rw [← hW, ← hbg]; simp
  have HW := Lib.hid hW
  have Hbg := Lib.hid hbg
  have HL := Lib.hid hlen
  have hr1 : (listB valB g.roots).length ≤ 2000 := by have := hlen; unfold bodyB at this; rw [List.length_append] at this; omega
  have HL1 := Lib.hid hr1
  clear hO hR hM0 hW hlen hbg hr1
  go_enter Try.func22, Try.ntmps22
  go_upto_region 1 with (fail)
  rw [HW.out, Hbg.out]
  go_wp2_with fail
  with_reducible refine HR.out.mono ?_
  rintro e w2 ⟨v2, rfl, hM2⟩
  rw [List.nil_append] at hM2
  obtain ⟨a2, m2, c2, rfl⟩ := own_slice (hM2.row 0 rfl)
  have k0 : w2.cell? ⟨bg, 0, none⟩ = some (.slice ao g.objs.length co) := by have := hM2.cell 1 rfl 0; rw [Hbg.out] at this; simpa using this
  have kz : bg < w2.heap.size := by have := (hM2.box 1 rfl).2.1; rw [Hbg.out] at this; exact this
  have HB := Lib.hid (listO_any w w2 _ _ _ g.objs _ hM2 HO.out (by omega) (fun o h => by have := hf o h; omega) (by have := HL1.out; omega))
  clear hM2 g0 g1 gz HW HR
  go_wp2_with fail
  with_reducible refine HB.out.mono ?_
  rintro e w3 ⟨v3, rfl, hM3⟩
  have hM3 : Mem w.heap.size w w3 (rowY v3 (bodyB g) :: [ebox w.heap.size #[.slice ao g.objs.length co, .slice ar g.roots.length cr] 25]) := hM3
  obtain ⟨a3, m3, c3, rfl⟩ := own_slice (hM3.row 0 rfl)
  have HS := Lib.hid (sum_any _ (bodyB g) w3 (hM3.isTup 0 rfl encY_len (by have := HL.out; omega)) (bodyB_byte g))
  have HM3 := Lib.hid hM3
  clear hM3 HB k0 kz
  go_wp2_with fail
  with_reducible refine HS.out.mono ?_
  rintro e w4 ⟨rfl, rfl⟩
  have ha := a0_lt (bodyB g)
  obtain ⟨S, hS⟩ : ∃ S, a0 (bodyB g) = S := ⟨_, rfl⟩
  rw [hS] at ha
  rw [hS]
  have HSS := Lib.hid hS
  have HI := Lib.hid (isTup_list (w := w3) encY_len [S % 256, S / 256] #[.int .u8 ((S : Int) % 256), .int .u8 ((S : Int) / 256)] (by simp [encY]) (by simp) 2 2 rfl 5)
  have hM5 := HM3.out.alloc_ (.cells #[.int .u8 ((S : Int) % 256), .int .u8 ((S : Int) / 256)] 5)
  have HM5 := Lib.hid hM5
  clear hM5 hS HS HM3
  go_wp2_with (refine Mem.wp_appTl elemY encY_len encY_one rfl (.tmp 14) (.tmp 20) rfl HM5.out 0 rfl rfl rfl HI.out (by have := HL.out; simp; omega) (by decide) ?_; intro v7 w7 hM7 hs7 hk7)
  go_ret
  refine ⟨_, rfl, ?_⟩
  have e : bodyB g ++ [S % 256, S / 256] = graphB g := by unfold graphB sumB; rw [HSS.out]
  rw [e] at hM7
  exact (show Mem w.heap.size w w7 [rowY v7 (graphB g), _] from hM7).pick0 [0] (by decide) rfl
set_option maxRecDepth 100000 in
set_option maxHeartbeats 1000000 in
theorem put_yes (w : World) (gv : Value) (g : G) (hg : IsGraph w gv g) (h : Good g) :
    Calls Try.prog 8 #[gv] w fun e w' => ∃ v, e = .returned (.tuple #[v, .int .i64 0]) ∧ Mem w.heap.size w w' [rowY v (graphB g)] := by
  have Hg := Lib.hid hg
  obtain ⟨vo, vr, rfl, hO, hR⟩ := hg
  obtain ⟨ao, co, rfl, hom⟩ := hO.slice
  obtain ⟨ar, cr, rfl, hrm⟩ := hR.slice
  have hb1 : Below w.heap.size w (w.alloc (.cells #[.slice ao g.objs.length co, .slice ar g.roots.length cr] 25)) := (Below.refl _ _).alloc (Nat.le_refl _) _
  have hM1 := (Mem.start w).alloc #[.slice ao g.objs.length co, .slice ar g.roots.length cr] 25
  have HC := Lib.hid (gcheck_yes _ g _ (Hg.out.later hb1) h)
  have HM1 := Lib.hid hM1
  have HH := Lib.hid h
  clear hO hR hb1 hM1
  go_enter Try.func8, Try.ntmps8
  go_wp2_with fail
  with_reducible refine HC.out.mono ?_
  rintro e w2 ⟨rfl, hb2⟩
  have hM2 := HM1.out.call hb2
  have k0 : w2.cell? ⟨w.heap.size, 0, none⟩ = some (.slice ao g.objs.length co) := by have := hM2.cell 0 rfl 0; simpa using this
  have k1 : w2.cell? ⟨w.heap.size, 1, none⟩ = some (.slice ar g.roots.length cr) := by have := hM2.cell 0 rfl 1; simpa using this
  have kz : w.heap.size < w2.heap.size := (hM2.box 0 rfl).2.1
  have HB := Lib.hid (bytesOf_any w2 _ g (Hg.out.later hM2.below) HH.out.roots HH.out.objs HH.out.fields)
  have HM2 := Lib.hid hM2
  clear HC HM1 hb2 hM2
  go_wp2_with fail
  with_reducible refine HB.out.mono ?_
  rintro e w3 ⟨v3, rfl, hM3⟩
  have HM3 := Lib.hid (HM2.out.callMem hM3)
  clear hM3 HB k0 k1 kz
  go_wp2
  go_ret2
  exact ⟨_, rfl, HM3.out.pick0 [0] (by decide) rfl⟩
set_option maxRecDepth 100000 in
set_option maxHeartbeats 1000000 in
theorem put_no (w : World) (gv : Value) (g : G) (hg : IsGraph w gv g) (h : ¬ Good g) :
    Calls Try.prog 8 #[gv] w fun e w' => ∃ c : Int, c ≠ 0 ∧ e = .returned (.tuple #[.slice none 0 0, .int .i64 c]) ∧ Below w.heap.size w w' := by
  have Hg := Lib.hid hg
  obtain ⟨vo, vr, rfl, hO, hR⟩ := hg
  obtain ⟨ao, co, rfl, hom⟩ := hO.slice
  obtain ⟨ar, cr, rfl, hrm⟩ := hR.slice
  have hb1 : Below w.heap.size w (w.alloc (.cells #[.slice ao g.objs.length co, .slice ar g.roots.length cr] 25)) := (Below.refl _ _).alloc (Nat.le_refl _) _
  have HC := Lib.hid (gcheck_no _ g _ (Hg.out.later hb1) h)
  have HB1 := Lib.hid hb1
  clear hO hR hb1
  go_enter Try.func8, Try.ntmps8
  go_wp2_with fail
  with_reducible refine HC.out.mono ?_
  rintro e w2 ⟨⟨c, rfl, hc0'⟩, hb2⟩
  have hc0 : c ≠ 0 := by simpa using hc0'
  have HB2 := Lib.hid (HB1.out.trans (hb2.mono HB1.out.size))
  have q : (c != 0) = true := by simpa using hc0
  have Hc0 := Lib.hid hc0
  clear HC HB1 hb2 hc0 hc0'
  go_wp2
  go_ret2
  exact ⟨c, Hc0.out, rfl, HB2.out⟩
end Go.Proofs.Ytelhjcifiahahaa
