/- GraphRenamed, walked. -/
import Derived.Test.YtjeaaiklbefmmaaRp
import Derived.Test.YtjeaaiklbefmmaaRj
import Derived.Deep.RegionHeld3
import Derived.Deep.DeepCutAuto
namespace Go.Proofs.Ytjeaaiklbefmmaa
open Go.RowKit Go.Shelf

theorem same_iso {g h : G} {L : List Int} {p : Int → Int} (I : Iso g h L p) {r : Bool} (hs : SameS g h r) : r = true := by
  obtain ⟨ca, cb, h1, h2, rfl⟩ := hs
  have := iso_canon I h1 h2
  simp [this]

theorem same_more {g h : G} (hG : Good g) {L : List Int} {p : Int → Int} (I : Iso g h L p) {r r' : Bool} (hs : SameS g h r) (hs' : SameS (more g) h r') : r' = true := by
  obtain ⟨c, d, h1, h2, rfl⟩ := hs
  obtain ⟨c', d', h3, h4, rfl⟩ := hs'
  have e1 := iso_canon (iso_more hG) h1 h3
  have e2 := iso_canon I h1 h4
  simp [← e1, ← e2]

set_option maxRecDepth 100000 in
set_option maxHeartbeats 40000000 in
theorem renamed_good (g : G) (hG : Good g) (hn0 : 0 < g.objs.length) (hn24 : g.objs.length < 24) (v : Value) (k : Nat) (hk : k < 256) (w : World) (hg : IsGraph w v g) :
    Calls Try.prog 7 #[v, .int .u8 k] w fun e w' => e = .returned (.bool true) ∧ Below w.heap.size w w' := by
  have Hg := Lib.hid hg
  obtain ⟨vo, vr, rfl, ho, hr⟩ := hg
  obtain ⟨ao, co, rfl, hlo⟩ := ho.slice
  obtain ⟨ar, cr, rfl, hlr⟩ := hr.slice
  have Ho := Lib.hid ho
  have Hr := Lib.hid hr
  clear ho hr
  have hM0 := (Mem.start w).alloc #[.slice ao g.objs.length co, .slice ar g.roots.length cr] 25
  obtain ⟨n, hn⟩ : ∃ n, g.objs.length = n := ⟨_, rfl⟩
  rw [hn] at hM0 hn0 hn24 Hg Ho ⊢
  have hz : ¬ n = 0 := by omega
  have hwr : IntKind.wrap .i64 (k : Int) = (k : Int) := by simp [IntKind.wrap, IntKind.bits, IntKind.signed]; omega
  have hz3 : ((n : Int) == 0) = false := by simp; omega
  have hz4 : ((n : Int) == 24) = false := by simp; omega
  go_enter Try.func7, Try.ntmps7
  go_wp2_with fail
  refine (good_yes _ g _ (Hg.out.later hM0.below) hG).mono ?_
  rintro e w1 ⟨rfl, hb1⟩
  have hM1 := hM0.call hb1
  obtain ⟨p0, p1⟩ := hM1.cells2 0 rfl
  have hsz1 : w.heap.size < w1.heap.size := (hM1.box 0 rfl).2.1
  have hmod : ((k : Int)).tmod n = ((k % n : Nat) : Int) := Int.ofNat_tmod _ _
  have hkl : k % n < n := Nat.mod_lt _ hn0
  go_wp2
  obtain ⟨h, hh⟩ : ∃ h, h = renumP g (rot g.objs.length (k % n)) (fun y => plc (rot g.objs.length (k % n)) y 0) := ⟨_, rfl⟩
  have Hh := Lib.hid hh
  have Hn := Lib.hid hn
  clear hh hn
  have Hkn : Hid (((k : Int)) % n = ((k % n : Nat) : Int)) := Lib.hid (Int.natCast_emod k n).symm
  go_cut [6] (fun s6 wx => ∃ (b6 : Nat) (a3 a4 : Option Addr) (c3 c4 : Nat), s6 = .pointer (some ⟨b6, 0, none⟩) ∧
    Mem w.heap.size w wx [ebox b6 #[.slice a3 h.objs.length c3, .slice a4 h.roots.length c4] 25, ebox w.heap.size #[.slice ao n co, .slice ar g.roots.length cr] 25] ∧ IsGraph wx (.agg #[.slice a3 h.objs.length c3, .slice a4 h.roots.length c4]) h)
  case first =>
    go_region_law (first
      | (go_simp
         rw [Hkn.out]
         refine (rotated_any g hG (k % n) (by rw [Hn.out]; exact hkl) _ w1.drew (Hg.out.later hM1.drew.below)).mono ?_
         rintro e w2 ⟨vh, rfl, hgh, hb2⟩
         rw [← Hh.out] at hgh
         have HGh := Lib.hid hgh
         have hM2 := hM1.drew.call hb2
         obtain ⟨vho, vhr, rfl, hho, hhr⟩ := hgh.here
         obtain ⟨a3, c3, rfl, _⟩ := hho.slice
         obtain ⟨a4, c4, rfl, _⟩ := hhr.slice
         have hM3 := hM2.alloc #[.slice a3 h.objs.length c3, .slice a4 h.roots.length c4] 25
         have hbh : Below w2.heap.size w2 (w2.alloc (.cells #[.slice a3 h.objs.length c3, .slice a4 h.roots.length c4] 25)) := (Below.refl _ _).alloc (Nat.le_refl _) _)
      | (go_simp
         rw [Hkn.out]
         refine (rotated_any g hG (k % n) (by rw [Hn.out]; exact hkl) _ (w1.alloc (.cells #[.slice none 0 0, .slice none 0 0] 25)).drew (Hg.out.later (hM1.alloc_ _).drew.below)).mono ?_
         rintro e w2 ⟨vh, rfl, hgh, hb2⟩
         rw [← Hh.out] at hgh
         have HGh := Lib.hid hgh
         have hM2 := (hM1.alloc #[.slice none 0 0, .slice none 0 0] 25).drew.call hb2
         obtain ⟨vho, vhr, rfl, hho, hhr⟩ := hgh.here
         obtain ⟨a3, c3, rfl, _⟩ := hho.slice
         obtain ⟨a4, c4, rfl, _⟩ := hhr.slice
         obtain ⟨s0, s1⟩ := hM2.cells2 0 rfl
         have s2 : w2.frozen? ⟨w1.heap.size, 0, none⟩ = false := hM2.free 0 rfl 0
         have s3 : w2.frozen? ⟨w1.heap.size, 1, none⟩ = false := hM2.free 0 rfl 1
         have hM3 := (hM2.setBox 0 rfl 0 (.slice a3 h.objs.length c3)).setBox 0 rfl 1 (.slice a4 h.roots.length c4)))
    all_goals
      (first
        | (obtain ⟨W3, hW3⟩ : ∃ W3, w2.alloc (.cells #[.slice a3 h.objs.length c3, .slice a4 h.roots.length c4] 25) = W3 := ⟨_, rfl⟩
           rw [hW3] at hM3 ⊢
           have hgr3 : IsGraph W3 (.agg #[.slice a3 h.objs.length c3, .slice a4 h.roots.length c4]) h := by
             rw [← hW3]; exact HGh.out _ (by simp) (fun b _ h2 => heap_alloc_old _ _ h2))
        | (obtain ⟨W3, hW3⟩ : ∃ W3, (w2.setCell ⟨w1.heap.size, 0, none⟩ (.slice a3 h.objs.length c3)).setCell ⟨w1.heap.size, 1, none⟩ (.slice a4 h.roots.length c4) = W3 := ⟨_, rfl⟩
           rw [hW3] at hM3 ⊢
           have hgr3 : IsGraph W3 (.agg #[.slice a3 h.objs.length c3, .slice a4 h.roots.length c4]) h := by
             rw [← hW3]
             refine HGh.out _ (by simp) ?_
             intro b h1 h2
             simp at h1
             rw [heap_setCell_other _ _ _ _ (by simp only; omega), heap_setCell_other _ _ _ _ (by simp only; omega)]))
    all_goals
      have HM3 := Lib.hid hM3
      have HG3 := Lib.hid hgr3
      clear hM3 hgr3 hW3
      go_wp2_with fail
      go_meet
      exact ⟨_, a3, a4, c3, c4, rfl, HM3.out, HG3.out⟩
  case rest =>
    obtain ⟨b6, a3, a4, c3, c4, rfl, hM3, hgr3⟩ := hcut
    have I := iso_rot hG (show k % n < g.objs.length by rw [Hn.out]; exact hkl)
    have hGh := good_rot hG (show k % n < g.objs.length by rw [Hn.out]; exact hkl)
    rw [← Hh.out] at I hGh
    obtain ⟨q0, q1⟩ := hM3.cells2 0 rfl
    obtain ⟨q2, q3⟩ := hM3.cells2 1 rfl
    have HI := Lib.hid I
    have HGh := Lib.hid hGh
    have Hgr3 := Lib.hid hgr3
    clear I hGh hgr3 hM0 hM1 p0 p1 hb1 hmod hwr hz3 hz4
    go_wp2_with fail
    refine (same_any g h hG HGh.out _ _ _ (Hg.out.later hM3.below) Hgr3.out).mono ?_
    rintro e w4 ⟨r, rfl, hs, hb4⟩
    obtain rfl := same_iso HI.out hs
    have hM4 := hM3.call hb4
    have Hgr4 := Lib.hid (Hgr3.out.later hb4)
    obtain ⟨r0, r1⟩ := hM4.cells2 0 rfl
    obtain ⟨r2, r3⟩ := hM4.cells2 1 rfl
    have z0 : w.heap.size < w4.heap.size := (hM4.box 1 rfl).2.1
    have HM4 := Lib.hid hM4
    have Hs := Lib.hid hs
    clear hM3 hM4 hs q0 q1 q2 q3 hb4 Hgr3
    obtain ⟨bo, oo, us, rfl, hul, hbo, hucell, huval⟩ := Ho.out.cells Hn.out hn0
    have hsrc : ∀ W : World, Below w4.heap.size w4 W → ∀ (j : Nat) (u : Value), us[j]? = some u → W.cell? ((⟨bo, oo, none⟩ : Addr).add j) = some u := by
      intro W hW j u hj
      have h1 := ((HM4.out.below.trans (hW.mono HM4.out.base)).cell (p := ⟨bo, oo + j, none⟩) hbo).trans (hucell j u hj)
      rcases Nat.eq_zero_or_pos j with rfl | hj0
      · simpa [Addr.add] using h1
      · have hj1 : ¬ j = 0 := by omega
        simpa [Addr.add, hj1] using h1
    have hS : ∀ W : World, Below w4.heap.size w4 W → W.cell? ⟨w.heap.size, 0, none⟩ = some (.slice (some ⟨bo, oo, none⟩) n co) ∧ W.cell? ⟨w.heap.size, 1, none⟩ = some (.slice ar g.roots.length cr) := by
      intro W hW
      exact ⟨(hW.cell (p := ⟨_, _, none⟩) z0).trans r2, (hW.cell (p := ⟨_, _, none⟩) z0).trans r3⟩
    have Hsrc := Lib.hid hsrc
    have HS := Lib.hid hS
    have Hul := Lib.hid hul
    have Huc := Lib.hid hucell
    have Huv := Lib.hid huval
    clear hsrc hS hul hucell huval
    go_wp2
    go_cut [9] (fun s9 wx => MoreR us n (.slice ar g.roots.length cr) 25 35 w4 s9 wx)
    case first =>
      go_region_held3 (fun W => W.cell? ⟨w.heap.size, 0, none⟩ = some (.slice (some ⟨bo, oo, none⟩) n co) ∧ W.cell? ⟨w.heap.size, 1, none⟩ = some (.slice ar g.roots.length cr))
        (exact HS.out _ (by repeat (first | exact Below.refl _ _ | assumption | refine Below.setCell ?_ (by first | exact Nat.le_refl _ | (simp; done) | (simp; omega) | (simp at *; omega)) _ | refine Below.alloc ?_ (by first | exact Nat.le_refl _ | (simp; done) | (simp; omega) | (simp at *; omega)) _ | refine Below.drew ?_)))
        (first
          | (refine step_app_fresh elemObjs (by decide) rfl (.tmp 46) (.tmp 48) rfl _ rfl ⟨bo, oo, none⟩ n co rfl us Hul.out hn0 (by omega) (Hsrc.out _ (by repeat (first | exact Below.refl _ _ | assumption | refine Below.setCell ?_ (by first | exact Nat.le_refl _ | (simp; done) | (simp; omega) | (simp at *; omega)) _ | refine Below.alloc ?_ (by first | exact Nat.le_refl _ | (simp; done) | (simp; omega) | (simp at *; omega)) _ | refine Below.drew ?_))) ?_; intro cap rest hcap hcm)
          | (refine step_app_one elemObjs (by decide) rfl (.tmp 49) (.tmp 53) rfl w4.heap.size _ n cap us rest ?hN rfl Hul.out hcap (by omega) hcm ?hg _ _ _ rfl (.tmp 51) rfl ?hc rfl ?_
             case hN => first | exact Nat.le_refl _ | omega | (simp; done) | (simp; omega)
             case hg => (repeat (first | (refine heap_at _ _ _ ?_; (simp; done)) | (refine (heap_old _ _ ?_).trans ?_; (focus (first | (simp; done) | (simp; omega) | omega))) | (with_reducible refine (heap_drew _).trans ?_)))
             case hc => (repeat (first | (refine cell_at _ _ _ ?_ rfl; (simp; done)) | (refine (cell_old _ _ ?_).trans ?_; (focus (first | (simp; done) | (simp; omega) | omega))) | (with_reducible refine (cell_drew _).trans ?_)))
             intro g' cap' W' h1 h2 h3 h4 h5 h6 h7
             have hBW : Below w4.heap.size w4 W' := Below.trans (by repeat (first | exact Below.refl _ _ | assumption | refine Below.setCell ?_ (by first | exact Nat.le_refl _ | (simp; done) | (simp; omega) | (simp at *; omega)) _ | refine Below.alloc ?_ (by first | exact Nat.le_refl _ | (simp; done) | (simp; omega) | (simp at *; omega)) _ | refine Below.drew ?_)) h3
             (first
               | (refine have_ (p := W'.heap[w4.heap.size]? = some (.cells #[.slice none 0 0, .slice none 0 0] 25 (0, 0))) ?_ (fun h9 => ?_); (focus ((repeat (first | (refine heap_at _ _ _ ?_; (simp; done)) | (refine (heap_old _ _ ?_).trans ?_; (focus (first | (simp; done) | (simp; omega) | omega))) | (with_reducible refine (heap_drew _).trans ?_) | (refine (h5 _ ?_ ?_).trans ?_; (focus (first | (simp; done) | (simp; omega) | omega)); (focus (first | (simp; done) | (simp; omega) | omega))))); done)); obtain ⟨k0, k1, f0, f1⟩ := box_facts h9)
               | (refine have_ (p := W'.heap[w4.heap.size + 1]? = some (.cells #[.slice none 0 0, .slice none 0 0] 25 (0, 0))) ?_ (fun h9 => ?_); (focus ((repeat (first | (refine heap_at _ _ _ ?_; (simp; done)) | (refine (heap_old _ _ ?_).trans ?_; (focus (first | (simp; done) | (simp; omega) | omega))) | (with_reducible refine (heap_drew _).trans ?_) | (refine (h5 _ ?_ ?_).trans ?_; (focus (first | (simp; done) | (simp; omega) | omega)); (focus (first | (simp; done) | (simp; omega) | omega))))); done)); obtain ⟨k0, k1, f0, f1⟩ := box_facts h9)
               | (refine have_ (p := W'.heap[w4.heap.size + 1 + 1]? = some (.cells #[.slice none 0 0, .slice none 0 0] 25 (0, 0))) ?_ (fun h9 => ?_); (focus ((repeat (first | (refine heap_at _ _ _ ?_; (simp; done)) | (refine (heap_old _ _ ?_).trans ?_; (focus (first | (simp; done) | (simp; omega) | omega))) | (with_reducible refine (heap_drew _).trans ?_) | (refine (h5 _ ?_ ?_).trans ?_; (focus (first | (simp; done) | (simp; omega) | omega)); (focus (first | (simp; done) | (simp; omega) | omega))))); done)); obtain ⟨k0, k1, f0, f1⟩ := box_facts h9)
               | (refine have_ (p := W'.heap[w4.heap.size + 1 + 1 + 1]? = some (.cells #[.slice none 0 0, .slice none 0 0] 25 (0, 0))) ?_ (fun h9 => ?_); (focus ((repeat (first | (refine heap_at _ _ _ ?_; (simp; done)) | (refine (heap_old _ _ ?_).trans ?_; (focus (first | (simp; done) | (simp; omega) | omega))) | (with_reducible refine (heap_drew _).trans ?_) | (refine (h5 _ ?_ ?_).trans ?_; (focus (first | (simp; done) | (simp; omega) | omega)); (focus (first | (simp; done) | (simp; omega) | omega))))); done)); obtain ⟨k0, k1, f0, f1⟩ := box_facts h9)
               | (refine have_ (p := W'.heap[w4.heap.size + 1 + 1 + 1 + 1]? = some (.cells #[.slice none 0 0, .slice none 0 0] 25 (0, 0))) ?_ (fun h9 => ?_); (focus ((repeat (first | (refine heap_at _ _ _ ?_; (simp; done)) | (refine (heap_old _ _ ?_).trans ?_; (focus (first | (simp; done) | (simp; omega) | omega))) | (with_reducible refine (heap_drew _).trans ?_) | (refine (h5 _ ?_ ?_).trans ?_; (focus (first | (simp; done) | (simp; omega) | omega)); (focus (first | (simp; done) | (simp; omega) | omega))))); done)); obtain ⟨k0, k1, f0, f1⟩ := box_facts h9)
               | skip)))
      all_goals
        go_wp2_with fail
        go_meet
        (first
          | (refine leafA hBW h2 h6 h9 ?_ ?_ ?_ ?_
             · (repeat (first | (refine heap_at _ _ _ ?_; (simp; done)) | (refine (heap_old _ _ ?_).trans ?_; (focus (first | (simp; done) | (simp; omega) | omega))) | (with_reducible refine (heap_drew _).trans ?_) | (refine (h5 _ ?_ ?_).trans ?_; (focus (first | (simp; done) | (simp; omega) | omega)); (focus (first | (simp; done) | (simp; omega) | omega)))))
             · (focus (first | (simp; done) | (simp; omega) | omega))
             · (first | (rcases h7 with h7 | h7 <;> (simp at h7 ⊢; omega)) | (rcases h7 with h7 | h7 <;> (simp at h7; omega)))
             · (focus (first | (simp; done) | (simp; omega) | omega)))
          | (refine leafB hBW h2 h6 ?_
             (repeat (first | (refine heap_at _ _ _ ?_; (simp; done)) | (refine (heap_old _ _ ?_).trans ?_; (focus (first | (simp; done) | (simp; omega) | omega))) | (with_reducible refine (heap_drew _).trans ?_) | (refine (h5 _ ?_ ?_).trans ?_; (focus (first | (simp; done) | (simp; omega) | omega)); (focus (first | (simp; done) | (simp; omega) | omega)))))))
    case rest =>
      obtain ⟨b9, bO, capO, rfl, hb9, hN9, hl9, hp9, hgm⟩ := moreR_graph Hn.out hn24 Hul.out Huv.out Hr.out HM4.out.below hcut
      have HGM := Lib.hid (good_more hG (by rw [Hn.out]; exact hn24))
      obtain ⟨k0, k1, f0, f1⟩ := box_facts hp9
      have z6 : b6 < w4.heap.size := (HM4.out.box 0 rfl).2.1
      have u0 := (hb9.cell (p := ⟨b6, 0, none⟩) z6).trans r0
      have u1 := (hb9.cell (p := ⟨b6, 1, none⟩) z6).trans r1
      have Hgm := Lib.hid hgm
      have Hgr9 := Lib.hid (Hgr4.out.later hb9)
      have hbw := Lib.hid (HM4.out.below.trans (hb9.mono HM4.out.base))
      clear hgm hb9 r0 r1 r2 r3 hcut Huv Huc HS Hsrc hp9
      go_wp2_with fail
      refine (same_any (more g) h HGM.out HGh.out _ _ _ Hgm.out Hgr9.out).mono ?_
      rintro e w7 ⟨r', rfl, hs7, hb7⟩
      obtain rfl := same_more hG HI.out Hs.out hs7
      have hbW := hbw.out.trans (hb7.mono hbw.out.size)
      clear hs7 hb7
      go_wp2
      go_ret
      exact ⟨rfl, hbW⟩
end Go.Proofs.Ytjeaaiklbefmmaa
