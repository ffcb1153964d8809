/- DualCounts, walked. -/
import Derived.Test.YtmmcjjklmcfegaaV6
import Derived.Test.YtmmcjjklmcfegaaV8
import Derived.Test.YtmmcjjklmcfegaaBase2
import Derived.BigQuiet
namespace Go.Proofs.Ytmmcjjklmcfegaa
open Go.RowKit Go.Shelf

theorem thereL_pre (os : Os) (i : Nat) : ∀ j, thereL os i <+: thereL os (i + j) := by
  intro j
  induction j with
  | zero => exact List.prefix_refl _
  | succ j ih =>
    rw [← Nat.add_assoc]
    refine ih.trans ?_
    cases h : os[i + j]? with
    | none =>
      have : thereL os (i + j + 1) = thereL os (i + j) := by
        unfold thereL
        rw [List.range_succ, List.filter_append]
        simp [h]
      rw [this]; exact List.prefix_refl _
    | some o =>
      cases o with
      | none => rw [thereL_no h]; exact List.prefix_refl _
      | some l => rw [thereL_yes h]; exact List.prefix_append _ _
theorem theres_at {s : Sm Cx} {i : Nat} {l : List V} (h : s.os[i]? = some (some l)) : (theres s s.os.length)[(thereL s.os i).length]? = some ((i : Int), s.x.cs.getD i 0) := by
  have hlt : i < s.os.length := (List.getElem?_eq_some_iff.1 h).1
  have h1 := thereL_pre s.os (i + 1) (s.os.length - (i + 1))
  rw [show i + 1 + (s.os.length - (i + 1)) = s.os.length by omega, thereL_yes h] at h1
  obtain ⟨r, hr⟩ := h1
  unfold theres
  rw [List.take_of_length_le (thereL_len _ _), List.getElem?_map, ← hr, List.append_assoc, List.getElem?_append_right (Nat.le_refl _), Nat.sub_self]
  simp
set_option maxRecDepth 100000 in
set_option maxHeartbeats 8000000 in
theorem dualCounts_good (g : G) (hG : Good g) (v : Value) (w : World) (hg : IsGraph w v g) :
    Calls Try.prog 7 #[v] w fun e w' => e = .returned (.bool true) ∧ Below w.heap.size w w' := by
  have Hg := Lib.hid hg
  obtain ⟨vo, vr, rfl, ho, hr⟩ := hg
  obtain ⟨ao, co, rfl, hlo⟩ := ho.slice
  obtain ⟨ar, cr, rfl, hlr⟩ := hr.slice
  have hM0 := (Mem.start w).alloc #[.slice ao g.objs.length co, .slice ar g.roots.length cr] 25
  obtain ⟨n, hn⟩ : ∃ n, g.objs.length = n := ⟨_, rfl⟩
  have hn24 := hG.objs
  have hi := runsC_inv hG 64 0 [] (Nat.le_refl _) (by omega)
  rw [List.take_nil] at hi
  obtain ⟨hi, hi2⟩ := hi
  have hruns : runs (cKd 64).step (startC g) [] = (startC g, []) := rfl
  obtain ⟨nT, hnT⟩ : ∃ nT, (theres (startC g) (startC g).os.length).length = nT := ⟨_, rfl⟩
  obtain ⟨nK, hnK⟩ : ∃ nK, (startC g).x.gone.length = nK := ⟨_, rfl⟩
  have hP := cPlay3 g hG _ (.slice none 0 0) 64 ⟨by omega, by omega⟩ [] w Hg.out ⟨none, 0, rfl, by simp, by simp⟩ (by simp) (by simp) 0 nT nK rfl (by rw [hruns]; exact hnT) (by rw [hruns]; exact hnK)
  unfold CPlay3 at hP
  rw [hruns] at hP hi hi2
  simp only at hP hi hi2
  have hS : startC g = ofC (firstR g.roots) (zaps (startC0 g) g.objs.length) := rfl
  have hos : (startC g).os = (zaps (startC0 g) g.objs.length).os := rfl
  have hcs : (startC g).x.cs = (zaps (startC0 g) g.objs.length).cs := rfl
  have hol : (startC g).os.length = n := by rw [hos, zlen hG, hn]
  have hyes : ∀ i l, (startC g).os[i]? = some (some l) → i < n → (theres (startC g) (startC g).os.length)[(thereL (startC g).os i).length]? = some ((i : Int), (hC (zaps (startC0 g) n) n).getD i 0) ∧ 0 < (hC (zaps (startC0 g) n) n).getD i 0 := by
    intro i l hl hin
    have h1 := theres_at hl
    have h2 := hC_yes (s := zaps (startC0 g) g.objs.length) (n := n) hin hl
    rw [hn] at h2
    rw [h2]
    have h3 := zpos hG (j := i) (l := l) hl
    rw [hn] at h3
    exact ⟨by rw [h1, hcs, hn], h3⟩
  have hno : ∀ i, (startC g).os[i]? = some none → (hC (zaps (startC0 g) n) n).getD i 0 = 0 := by
    intro i hl
    rw [hos, hn] at hl
    exact hC_no hl
  have hthl : ∀ i, i ≤ n → (thereL (startC g).os i).length ≤ nT := by
    intro i hin
    have h1 := (thereL_pre (startC g).os i ((startC g).os.length - i)).length_le
    rw [show i + ((startC g).os.length - i) = (startC g).os.length by omega] at h1
    rw [← hnT]
    unfold theres
    rw [List.length_map, List.take_of_length_le (thereL_len _ _)]; exact h1
  have hth : (thereL (startC g).os n).length = nT := by
    rw [← hnT, ← hol]
    unfold theres
    rw [List.length_map, List.take_of_length_le (thereL_len _ _)]
  have hT100 : nT ≤ 200 := by
    have := theres_le' (startC g)
    rw [hnT, hol] at this; omega
  have hpos := theres_pos hi
  obtain ⟨T1, hT1⟩ : ∃ T1, theres (startC g) (startC g).os.length = T1 := ⟨_, rfl⟩
  obtain ⟨G1, hG1⟩ : ∃ G1, (startC g).x.gone = G1 := ⟨_, rfl⟩
  obtain ⟨H, hH⟩ : ∃ H, hC (zaps (startC0 g) n) n = H := ⟨_, rfl⟩
  have hHl : H.length = n := by rw [← hH, hC_len]
  have hgr : ∀ m, IsGreatest g m → Sol g m → m = H := by
    intro m h1 h2
    rw [greatest_is hG h1 h2, hn, hH]
  obtain ⟨OS, hOS⟩ : ∃ OS, (startC g).os = OS := ⟨_, rfl⟩
  rw [hT1, hG1] at hP
  rw [hT1] at hnT hyes hpos
  rw [hH] at hyes hno
  rw [hOS] at hyes hno hth hthl hol
  have HP := Lib.hid hP
  have HM0 := Lib.hid hM0
  have HG := Lib.hid hG
  have Hyes := Lib.hid hyes
  have Hno := Lib.hid hno
  have Hth := Lib.hid hth
  have Hthl := Lib.hid hthl
  have Hol := Lib.hid hol
  have HnT := Lib.hid hnT
  have Hpos := Lib.hid hpos
  have HHl := Lib.hid hHl
  have Hgr := Lib.hid hgr
  have Hn := Lib.hid hn
  rw [hn] at hn24
  clear hM0 ho hr hi hi2 hP hruns hS hos hcs hol hyes hno hth hthl hpos hT1 hG1 hH hHl hgr hOS hnT hnK hn hG
  go_enter Try.func7, Try.ntmps7
  go_wp2_with fail
  refine (good_yes _ g _ (Hg.out.later HM0.out.below) HG.out).mono ?_
  rintro e w1 ⟨rfl, hb1⟩
  have hM1 := HM0.out.call hb1
  have g0 := hM1.cell 0 rfl 0
  have g1 := hM1.cell 0 rfl 1
  have gb := (hM1.box 0 rfl).2.1
  have HM1 := Lib.hid hM1
  clear hM1 hb1 HM0
  go_wp2_with fail
  refine HP.out _ _ _ HM1.out ?_
  intro aO cO aT cT aG cG w2 hM2
  have hM2 := hM2.alloc #[.slice aO 0 cO, .slice aT nT cT, .slice aG nK cG] 41
  obtain ⟨W2, hW2⟩ : ∃ W2, w2.alloc (.cells #[.slice aO 0 cO, .slice aT nT cT, .slice aG nK cG] 41) = W2 := ⟨_, rfl⟩
  rw [hW2] at hM2
  obtain ⟨b3, hb3⟩ : ∃ b3, w2.heap.size = b3 := ⟨_, rfl⟩
  rw [hb3] at hM2
  have h0 := hM2.cell 4 rfl 0
  have h1 := hM2.cell 4 rfl 1
  have hb := (hM2.box 4 rfl).2.1
  have HGr := Lib.hid (greatest_any g HG.out _ W2 (Hg.out.later hM2.below))
  have HM2 := Lib.hid hM2
  have HW2 := Lib.hid hW2
  have Hb3 := Lib.hid hb3
  clear hM2 hW2 hb3 HP g0 g1 gb HM1
  go_upto_region 4 with (fail)
  rw [HW2.out, Hb3.out]
  go_wp2_with fail
  refine HGr.out.mono ?_
  rintro e w3 ⟨vl, m, rfl, hm1, hm2, hMm⟩
  obtain rfl := Hgr.out m hm1 hm2
  obtain ⟨aM, cM, rfl⟩ := hMm.intsSlice 0 rfl
  have hM3 := HM2.out.callMem hMm
  rw [HHl.out] at hM3 ⊢
  have i0 := hM3.cell 5 rfl 0
  have ib := (hM3.box 5 rfl).2.1
  have d1 := hM3.cell 1 rfl 1
  have db := (hM3.box 1 rfl).2.1
  have q1 : (n != n) = false := by simp
  have q2 : ((n : Int) != (n : Int)) = false := by simp
  have HM3 := Lib.hid hM3
  rw [Hn.out] at i0
  clear hM3 hMm hm1 hm2 h0 h1 hb HGr HM2 HW2 Hb3
  go_upto_region 9 with (fail)
  go_loopw [7, 8] (fun s7 s8 wq => ∃ i : Nat, i ≤ n ∧ s8 = .int .i64 (i : Int) ∧ s7 = .int .i64 ((thereL OS i).length : Int) ∧ Below w3.heap.size w3 wq) (fun _ s _ => n - (intOf s).toNat)
  case atStart => exact ⟨0, Nat.zero_le _, rfl, rfl, Below.refl _ _⟩
  case round =>
    clear d1 db i0 ib q1 q2
    obtain ⟨i, hi, rfl, rfl, hB⟩ := hrel
    have hMr := HM3.out.call hB
    have d1 : wr.cell? ⟨b3, 1, none⟩ = some (.slice aT nT cT) := hMr.cell 1 rfl 1
    have db : b3 < wr.heap.size := (hMr.box 1 rfl).2.1
    by_cases hlt : i < n
    · obtain ⟨x, hx⟩ := get_some m i (by rw [HHl.out]; exact hlt)
      have hxd : m.getD i 0 = x := by rw [List.getD_eq_getElem?_getD, hx]; rfl
      obtain ⟨gM, capM, hvM, _, bM, cM2, _⟩ := hMr.intsAt 0 rfl (by rintro rfl; simp at hx)
      have c0 := cM2 i x hx
      obtain ⟨o, ho⟩ : ∃ o, OS[i]? = some o := ⟨_, List.getElem?_eq_getElem (by rw [Hol.out]; exact hlt)⟩
      have haM : aM = some ⟨gM, 0, none⟩ := by cases hvM; rfl
      have e2 : (i : Int) < (n : Int) := by omega
      subst haM
      cases o with
      | none =>
        have hx0 := Hno.out i ho
        rw [hxd] at hx0
        subst hx0
        have HT := Lib.hid (thereL_no ho)
        have HB := Lib.hid hB
        clear hx hxd hvM cM2 ho hMr hB d1 db
        go_wp2_with fail
        go_roundw
        case rel => exact ⟨i + 1, by omega, by go_num, by rw [HT.out], HB.out⟩
        case measure => simp [intOf]; omega
      | some l =>
        obtain ⟨ht, hx0⟩ := Hyes.out i l ho hlt
        rw [hxd] at ht hx0
        obtain ⟨k, hk⟩ : ∃ k, (thereL OS i).length = k := ⟨_, rfl⟩
        rw [hk] at ht ⊢
        have hkT : k < nT := by
          have := (List.getElem?_eq_some_iff.1 ht).1
          rw [HnT.out] at this; exact this
        have tT := hMr.isTup 3 rfl (fun _ => rfl) (by have := HnT.out; omega)
        obtain ⟨b, off, rfl, _, hb2, hc⟩ := tT.at2 (Below.refl _ _) ht
        have c1 : wr.cell? ⟨b, off + k * 2, none⟩ = some (.int .i64 (i : Int)) := hc 0 _ rfl
        have c2 : wr.cell? ⟨b, off + k * 2 + 1, none⟩ = some (.int .i64 x) := hc 1 _ rfl
        have hxne : (x == 0) = false := by simp; omega
        have HT : Hid ((thereL OS (i + 1)).length = k + 1) := Lib.hid (by rw [thereL_yes ho, List.length_append, hk]; rfl)
        have HB := Lib.hid hB
        have e3 : (k : Int) < (nT : Int) := by omega
        have e4 : ¬ (nT : Int) ≤ (k : Int) := by omega
        have e5 : decide ((nT : Int) ≤ (k : Int)) = false := by simp; omega
        have e6 : decide (nT ≤ k) = false := by simp; omega
        clear hx hxd hvM cM2 ho hMr hB ht hx0 tT hc hk
        go_wp2_with fail
        go_quiet (fail)
        go_wp2_with fail
        go_roundw
        case rel => exact ⟨i + 1, by omega, by go_num, by rw [HT.out]; go_num, below_drewN HB.out _⟩
        case measure => simp [intOf]; omega
    · obtain rfl : i = n := by omega
      rw [Hth.out]
      have HB := Lib.hid hMr.below
      clear hMr hB
      go_wp2
      go_ret
      exact ⟨rfl, HB.out⟩
theorem dualCounts_walk (w : World) (v : Value) (h : ∃ g, IsGraph w v g) : Calls Try.prog 7 #[v] w fun e w' => e = .returned (.bool true) ∧ Below w.heap.size w w' := by
  obtain ⟨g, hg⟩ := h
  by_cases hG : Good g
  · exact dualCounts_good g hG v w hg
  · have Hg := Lib.hid hg
    have HG := Lib.hid hG
    obtain ⟨vo, vr, rfl, ho, hr⟩ := hg
    obtain ⟨ao, co, rfl, hlo⟩ := ho.slice
    obtain ⟨ar, cr, rfl, hlr⟩ := hr.slice
    have hM0 := (Mem.start w).alloc #[.slice ao g.objs.length co, .slice ar g.roots.length cr] 25
    clear ho hr hG
    go_enter Try.func7, Try.ntmps7
    go_wp2_with fail
    refine (good_no _ g _ (Hg.out.later hM0.below) HG.out).mono ?_
    rintro e w1 ⟨rfl, hb⟩
    have hM1 := hM0.call hb
    have p0 : w1.cell? ⟨w.heap.size, 0, none⟩ = some (.slice ao g.objs.length co) := by have := hM1.cell 0 rfl 0; simpa using this
    have p1 : w1.cell? ⟨w.heap.size, 1, none⟩ = some (.slice ar g.roots.length cr) := by have := hM1.cell 0 rfl 1; simpa using this
    go_wp2_with fail
    refine (refused_yes _ g _ (Hg.out.later hM1.below) HG.out).mono ?_
    rintro e w2 ⟨rfl, hb2⟩
    have hM2 := hM1.call hb2
    go_wp2
    go_ret
    exact ⟨rfl, hM2.below⟩
end Go.Proofs.Ytmmcjjklmcfegaa
