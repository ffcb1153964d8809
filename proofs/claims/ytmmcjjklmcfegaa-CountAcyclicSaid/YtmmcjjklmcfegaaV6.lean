/- CountSafe, walked. -/
import Derived.Test.YtmmcjjklmcfegaaV1
import Derived.Test.YtmmcjjklmcfegaaV3
import Derived.Test.YtmmcjjklmcfegaaTak
import Derived.Test.YtmmcjjklmcfegaaU2
import Derived.Test.YtmmcjjklmcfegaaBase10
import Derived.Deep.RegionHeld3
namespace Go.Proofs.Ytmmcjjklmcfegaa
open Go.RowKit Go.Shelf

/-- Play, in any world of this call: all three lists. -/
def CPlay3 (g : G) (room : Int) (ds : List Dd) (v u : Value) (w : World) (n nT nK : Nat) : Prop :=
  ∀ (X : World) (L : List Ent) (R : Ending → World → Prop), Mem w.heap.size w X L →
    (∀ aD cD aH cH aK cK w', Mem w.heap.size w w' (rowT 89 3 cellsO (.slice aD n cD) (runs (cKd room).step (startC g) ds).2 :: rowT 53 2 cellsC (.slice aH nT cH) (theres (runs (cKd room).step (startC g) ds).1 (runs (cKd room).step (startC g) ds).1.os.length) :: rowI 3 (.slice aK nK cK) (runs (cKd room).step (startC g) ds).1.x.gone :: L) →
      R (.returned (.tuple #[.agg #[.slice aD n cD, .slice aH nT cH, .slice aK nK cK], .int .i64 0])) w') →
    Calls Try.prog 21 #[v, .int .i64 room, u] X R
theorem theres_le' (s : Sm Cx) : (theres s s.os.length).length ≤ s.os.length := by
  unfold theres
  rw [List.length_map, List.length_take]
  have := thereL_len s.os s.os.length
  omega
theorem cPlay3 (g : G) (hG : Good g) (v u : Value) (room : Int) (hr : 1 ≤ room ∧ room ≤ 64) (ds : List Dd) (w : World) (hg : IsGraph w v g) (hu : IsTup 5 cellsD w u ds) (hd : ∀ d ∈ ds, DdOk d) (hn : ds.length ≤ 100) (n nT nK : Nat) (hnn : ds.length = n) (hnT : (theres (runs (cKd room).step (startC g) ds).1 (runs (cKd room).step (startC g) ds).1.os.length).length = nT) (hnK : (runs (cKd room).step (startC g) ds).1.x.gone.length = nK) : CPlay3 g room ds v u w n nT nK := by
  intro X L R hM hR
  refine (cplay_yes g hG v u room hr.1 hr.2 ds X (hg.later hM.below) (hu.later hM.below) hd hn).mono ?_
  rintro e w' ⟨s, vo, vt, vg, hs, rfl, hM2⟩
  have hI := runsC_inv hG room ds.length ds (Nat.le_refl _) hn
  rw [List.take_length] at hI
  have h1 := hI.2
  have h2 := hI.1.room
  rw [← hs] at h1 h2
  have hl : (runs (cKd room).step (startC g) ds).2.length = ds.length := runs_len _ _ _
  have t1 := hM2.isTup 0 rfl (fun _ => rfl) (by rw [hl]; omega)
  have t2 := hM2.isTup 1 rfl (fun _ => rfl) (by have := theres_le' s; omega)
  obtain ⟨aO, cO, rfl, _⟩ := t1.slice
  obtain ⟨aT, cT, rfl, _⟩ := t2.slice
  obtain ⟨aG, cG, rfl⟩ := hM2.intsSlice 2 rfl
  have hM3 := hM.callMem hM2
  subst hs
  rw [hl, hnn] at hM3 ⊢
  rw [hnT] at hM3 ⊢
  rw [hnK] at hM3 ⊢
  exact hR aO cO aT cT aG cG w' hM3
theorem theres_fst (s : Sm Cx) : (theres s s.os.length).map Prod.fst = thereL s.os s.os.length := by
  unfold theres
  rw [List.map_map, List.take_of_length_le (thereL_len _ _)]
  conv => rhs; rw [← List.map_id (thereL s.os s.os.length)]
  rfl
theorem rising_of_pw {l : List Int} (h : l.Pairwise (· < ·)) : Rising l := by
  intro k x y hx hy
  have hk := (List.getElem?_eq_some_iff.1 hy)
  obtain ⟨h1, rfl⟩ := hk
  have hk2 := (List.getElem?_eq_some_iff.1 hx)
  obtain ⟨h2, rfl⟩ := hk2
  exact List.pairwise_iff_getElem.1 h k (k + 1) h2 h1 (by omega)
theorem there_gone {s : Sm Cx} (h : InvK s) : (thereL s.os s.os.length ++ s.x.gone).Nodup ∧ (∀ x ∈ thereL s.os s.os.length ++ s.x.gone, 0 ≤ x ∧ x < (s.os.length : Int)) ∧ ∀ i : Nat, i < s.os.length → (i : Int) ∈ thereL s.os s.os.length ++ s.x.gone := by
  refine ⟨?_, ?_, ?_⟩
  · rw [List.nodup_append]
    refine ⟨rising_nodup (thereL_rising _ _), h.nodup, ?_⟩
    rintro x hx y hy rfl
    exact ((h.gone x).1 hy).2.2 ((mem_thereL (Nat.le_refl _)).1 hx).1
  · intro x hx
    rcases List.mem_append.1 hx with hx | hx
    · obtain ⟨h1, h2⟩ := (mem_thereL (Nat.le_refl _)).1 hx
      exact ⟨h1.1, h2⟩
    · obtain ⟨h1, h2, _⟩ := (h.gone x).1 hx
      exact ⟨h1, h2⟩
  · intro i hi
    by_cases hl : Lives s.os (i : Int)
    · exact List.mem_append_left _ ((mem_thereL (Nat.le_refl _)).2 ⟨hl, by omega⟩)
    · exact List.mem_append_right _ ((h.gone _).2 ⟨by omega, by omega, hl⟩)
theorem theres_pos {s : Sm Cx} (h : InvK s) : ∀ p ∈ theres s s.os.length, 0 < p.2 ∧ i64ok p.1 ∧ i64ok p.2 := by
  intro p hp
  unfold theres at hp
  obtain ⟨x, hx, rfl⟩ := List.mem_map.1 hp
  obtain ⟨h1, h2⟩ := (mem_thereL (Nat.le_refl _)).1 (List.mem_of_mem_take hx)
  have h3 := h.inv.at h1
  have h4 := h.pos x.toNat _ h3 (by rw [Int.toNat_of_nonneg h1.1]; exact h1)
  have h5 := h.bnd _ (List.mem_of_getElem? h3)
  have h6 := h1.1
  have h7 := h.len
  have h8 : s.x.cs.getD x.toNat 0 = _ := getD_at h3
  simp only
  rw [h8]
  exact ⟨h4, ⟨by omega, by omega⟩, ⟨by omega, by omega⟩⟩
/-- The helpers of the law, in any world of this call. -/
def CObjs (w : World) (nT : Nat) (aT : Option Addr) (cT : Nat) (T1 : List (Int × Int)) : Prop :=
  ∀ (X : World) (L : List Ent) (R : Ending → World → Prop), Mem w.heap.size w X L → rowT 53 2 cellsC (.slice aT nT cT) T1 ∈ L →
    (∀ a c w', Mem w.heap.size w w' (rowI 3 (.slice a nT c) (T1.map Prod.fst) :: L) → R (.returned (.slice a nT c)) w') → Calls Try.prog 26 #[.slice aT nT cT] X R
theorem cObjs (w : World) (nT : Nat) (aT : Option Addr) (cT : Nat) (T1 : List (Int × Int)) (h : T1.length = nT) (hn : nT ≤ 1000) : CObjs w nT aT cT T1 := by
  intro X L R hM hm hR
  obtain ⟨k, hk⟩ := List.getElem?_of_mem hm
  have tT := hM.isTup k hk (fun _ => rfl) (by omega)
  refine (objects_any _ T1 X tT (by omega)).mono ?_
  rintro e w' ⟨u, rfl, hM2⟩
  obtain ⟨a, c, rfl⟩ := hM2.intsSlice 0 rfl
  have h3 := hM.callMem hM2
  rw [List.length_map, h] at h3 ⊢
  exact hR a c w' h3
def CRis (w : World) (nT : Nat) (F : List Int) : Prop :=
  ∀ (X : World) (L : List Ent) (R : Ending → World → Prop) (a : Option Addr) (c : Nat), Mem w.heap.size w X L → rowI 3 (.slice a nT c) F ∈ L →
    (∀ w', Mem w.heap.size w w' L → R (.returned (.bool true)) w') → Calls Try.prog 25 #[.slice a nT c] X R
theorem cRis (w : World) (nT : Nat) (F : List Int) (h : F.length = nT) (hn : nT ≤ 1000) (hi : ∀ x ∈ F, i64ok x) (hr : Rising F) : CRis w nT F := by
  intro X L R a c hM hm hR
  obtain ⟨k, hk⟩ := List.getElem?_of_mem hm
  have tT : IsInts X (.slice a nT c) F := isInts_of_own (hM.row k hk) (by omega) hi
  refine (rising_yes _ _ X tT hr).mono ?_
  rintro e w' ⟨rfl, hb⟩
  exact hR w' (hM.call hb)
def CMade (w : World) (v u : Value) (aO : Option Addr) (cO : Nat) (O1 : List Ot) (L M : Nat) : Prop :=
  ∀ (X : World) (Ls : List Ent) (R : Ending → World → Prop), Mem w.heap.size w X Ls → rowT 89 3 cellsO (.slice aO L cO) O1 ∈ Ls →
    (∀ w', Mem w.heap.size w w' Ls → R (.returned (.int .i64 (M : Int))) w') → Calls Try.prog 28 #[v, u, .slice aO L cO] X R
theorem cMade (w : World) (g : G) (v u : Value) (aO : Option Addr) (cO : Nat) (ds : List Dd) (O1 : List Ot) (L M : Nat) (hg : IsGraph w v g) (hgn : g.objs.length ≤ 1000) (hu : IsTup 5 cellsD w u ds) (hL : ds.length = L) (hn : L ≤ 100) (hO : O1.length = L) (hM' : g.objs.length + madeN ds O1 = M) : CMade w v u aO cO O1 L M := by
  intro X Ls R hM hm hR
  obtain ⟨k, hk⟩ := List.getElem?_of_mem hm
  have tT := hM.isTup k hk (fun _ => rfl) (by omega)
  refine (made_any g v u _ ds O1 X (hg.later hM.below) hgn (hu.later hM.below) tT (by omega) (by omega)).mono ?_
  rintro e w' ⟨rfl, hb⟩
  rw [hM']
  exact hR w' (hM.call hb)
def CSplit (w : World) (M nT nK : Nat) (aG : Option Addr) (cG : Nat) (F G1 : List Int) : Prop :=
  ∀ (X : World) (L : List Ent) (R : Ending → World → Prop) (a : Option Addr) (c : Nat), Mem w.heap.size w X L → rowI 3 (.slice a nT c) F ∈ L → rowI 3 (.slice aG nK cG) G1 ∈ L →
    (∀ w', Mem w.heap.size w w' L → R (.returned (.bool true)) w') → Calls Try.prog 27 #[.int .i64 (M : Int), .slice a nT c, .slice aG nK cG] X R
theorem cSplit (w : World) (M nT nK : Nat) (aG : Option Addr) (cG : Nat) (F G1 : List Int) (hM1 : M ≤ 1000) (h : F.length = nT) (hn : nT ≤ 1000) (hi : ∀ x ∈ F, i64ok x) (hk : G1.length = nK) (hkn : nK ≤ 1000) (hgi : ∀ x ∈ G1, i64ok x)
    (hs : (F ++ G1).Nodup ∧ (∀ x ∈ F ++ G1, 0 ≤ x ∧ x < (M : Int)) ∧ ∀ i : Nat, i < M → (i : Int) ∈ F ++ G1) : CSplit w M nT nK aG cG F G1 := by
  intro X L R a c hM hm hm2 hR
  obtain ⟨k, hk1⟩ := List.getElem?_of_mem hm
  obtain ⟨k2, hk2⟩ := List.getElem?_of_mem hm2
  have tT : IsInts X (.slice a nT c) F := isInts_of_own (hM.row k hk1) (by omega) hi
  have tG : IsInts X (.slice aG nK cG) G1 := isInts_of_own (hM.row k2 hk2) (by omega) hgi
  refine (split_yes M hM1 _ _ _ _ X tT tG hs.1 hs.2.1 hs.2.2).mono ?_
  rintro e w' ⟨rfl, hb⟩
  exact hR w' (hM.call hb)
theorem keep5 {B : Nat} {w0 X : World} {L : List Ent} (h : Mem B w0 X L) {b c : Nat} {x y z u v : Value} {t t' : TypeId} (h1 : ebox b #[x, y, z] t ∈ L) (h2 : ebox c #[u, v] t' ∈ L) :
    (X.cell? ⟨b, 0, none⟩ = some x ∧ X.cell? ⟨b, 1, none⟩ = some y ∧ X.cell? ⟨b, 2, none⟩ = some z) ∧ X.cell? ⟨c, 0, none⟩ = some u ∧ X.cell? ⟨c, 1, none⟩ = some v :=
  ⟨⟨h.boxCell h1 0 rfl, h.boxCell h1 1 rfl, h.boxCell h1 2 rfl⟩, h.boxCell h2 0 rfl, h.boxCell h2 1 rfl⟩
set_option maxRecDepth 100000 in
set_option maxHeartbeats 8000000 in
theorem countSafe_good (g : G) (hG : Good g) (v : Value) (au : Option Addr) (cu : Nat) (room : Int) (hr : 1 ≤ room ∧ room ≤ 64) (ds : List Dd) (w : World) (hg : IsGraph w v g) (hu : IsTup 5 cellsD w (.slice au ds.length cu) ds) (hd : ∀ d ∈ ds, DdOk d) (hn : ds.length ≤ 100) :
    Calls Try.prog 6 #[v, .int .i64 room, .slice au ds.length cu] w fun e w' => e = .returned (.bool true) ∧ Below w.heap.size w w' := by
  have Hg := Lib.hid hg
  obtain ⟨vo, vr, rfl, ho, hr⟩ := hg
  obtain ⟨ao, co, rfl, hlo⟩ := ho.slice
  obtain ⟨ar, cr, rfl, hlr⟩ := hr.slice
  rename_i hrm
  have hM0 := (Mem.start w).alloc #[.slice ao g.objs.length co, .slice ar g.roots.length cr] 25
  obtain ⟨L, hL⟩ : ∃ L, ds.length = L := ⟨_, rfl⟩
  obtain ⟨S, hS⟩ : ∃ S, runs (cKd room).step (startC g) ds = S := ⟨_, rfl⟩
  have hi := runsC_inv hG room ds.length ds (Nat.le_refl _) hn
  rw [List.take_length, hS] at hi
  obtain ⟨hi, hi2⟩ := hi
  obtain ⟨t, ht1, ht2, ht3⟩ := count_told hG room hn
  have hmade := runs_made (cKd room).step (wB []) rfl (startC g) ds (runsC_tells hG room hn) ds.length (Nat.le_refl _)
  rw [List.take_length] at hmade
  have hst : (startC g).os.length = g.objs.length := by
    have := (startC_kin hG).len
    exact this.trans (by simp [startI])
  rw [hst] at hmade
  obtain ⟨nT, hnT⟩ : ∃ nT, (theres S.1 S.1.os.length).length = nT := ⟨_, rfl⟩
  obtain ⟨nK, hnK⟩ : ∃ nK, S.1.x.gone.length = nK := ⟨_, rfl⟩
  have hP := cPlay3 g hG _ _ room hrm ds w Hg.out hu hd hn L nT nK hL (by rw [hS]; exact hnT) (by rw [hS]; exact hnK)
  unfold CPlay3 at hP
  have hlo : S.2.length = L := by rw [← hS, runs_len]; exact hL
  rw [hL] at hP
  rw [hS] at hP ht1 ht2 hmade
  obtain ⟨T1, hT1⟩ : ∃ T1, theres S.1 S.1.os.length = T1 := ⟨_, rfl⟩
  have hfst : T1.map Prod.fst = thereL S.1.os S.1.os.length := by rw [← hT1]; exact theres_fst _
  have hpos := theres_pos hi
  have htg := there_gone hi
  rw [← hfst] at htg
  have hris : Rising (T1.map Prod.fst) := by rw [hfst]; exact rising_of_pw (thereL_rising _ _)
  rw [hT1] at hP hnT hpos
  obtain ⟨O1, hO1⟩ : ∃ O1, S.2 = O1 := ⟨_, rfl⟩
  obtain ⟨G1, hG1⟩ : ∃ G1, S.1.x.gone = G1 := ⟨_, rfl⟩
  rw [hO1, hG1] at hP
  rw [hO1] at ht1 hlo hmade
  rw [hG1] at htg hnK
  obtain ⟨M, hM⟩ : ∃ M, g.objs.length + madeN ds O1 = M := ⟨_, rfl⟩
  rw [hM] at hmade
  rw [hmade] at htg hi2
  have hT100 : nT ≤ 200 := by
    have := theres_le' S.1
    rw [hT1, hnT, hmade] at this; omega
  have hG100 : nK ≤ 200 := by
    have := hi.room
    rw [hG1, hnK, hmade] at this; omega
  have hgok : ∀ x ∈ G1, i64ok x := by
    intro x hx
    have := htg.2.1 x (List.mem_append_right _ hx)
    exact ⟨by omega, by omega⟩
  have hcl : ∀ c, CanonS (gOf t.regs t.os) c → c.objs.length ≤ nT := by
    intro c hc
    have := canon_le ht2 ht3 hc
    rw [← hnT, ← List.length_map (f := Prod.fst), hfst]
    exact this
  have HP := Lib.hid hP
  have HM0 := Lib.hid hM0
  have HT := Lib.hid ht1
  have Htg := Lib.hid htg
  have Hris := Lib.hid hris
  have Hpos := Lib.hid hpos
  have Hlo := Lib.hid hlo
  have HnT := Lib.hid hnT
  have HnK := Lib.hid hnK
  have HMd := Lib.hid hM
  have Hgok := Lib.hid hgok
  have Hcl := Lib.hid hcl
  have HL := Lib.hid hL
  have HG := Lib.hid hG
  have HD := Lib.hid hd
  have Hu := Lib.hid hu
  rw [hL] at hn Hu ⊢
  clear hM0 ho hr hi hi2 ht1 ht2 ht3 hst hP hlo hfst hpos htg hris hT1 hO1 hG1 hmade hM hnT hnK hL hS hG hd hu hgok hcl hrm
  go_enter Try.func6, Try.ntmps6
  go_wp2_with fail
  refine HP.out _ _ _ HM0.out ?_
  intro aO cO aT cT aG cG w1 hM1
  have hM1 := hM1.alloc #[.slice aO L cO, .slice aT nT cT, .slice aG nK cG] 41
  obtain ⟨W1, hW1⟩ : ∃ W1, w1.alloc (.cells #[.slice aO L cO, .slice aT nT cT, .slice aG nK cG] 41) = W1 := ⟨_, rfl⟩
  rw [hW1] at hM1
  obtain ⟨b7, hb7⟩ : ∃ b7, w1.heap.size = b7 := ⟨_, rfl⟩
  rw [hb7] at hM1
  have hO := hM1.isTup 1 rfl (fun _ => rfl) (by have := Hlo.out; omega)
  have g0 := hM1.cell 4 rfl 0
  have g1 := hM1.cell 4 rfl 1
  have gb := (hM1.box 4 rfl).2.1
  have c0 := hM1.cell 0 rfl 0
  have cb := (hM1.box 0 rfl).2.1
  have hTo := told_any g HG.out (.agg #[.slice ao g.objs.length co, .slice ar g.roots.length cr]) (.slice au L cu) (.slice aO L cO) (.slice none 0 0) ds O1 [] W1 (Hg.out.later hM1.below) (Hu.out.later hM1.below) hO ⟨none, 0, rfl, by simp, by simp⟩ HD.out (by rw [HL.out]; exact hn) (by rw [Hlo.out, HL.out]) (by rw [HT.out])
  have HTo := Lib.hid hTo
  have HM1 := Lib.hid hM1
  have HW1 := Lib.hid hW1
  have Hb7 := Lib.hid hb7
  clear hM1 hW1 hb7 HP HM0 hO hTo
  go_upto_region 4 with (fail)
  rw [HW1.out, Hb7.out]
  go_wp2_with fail
  refine HTo.out.mono ?_
  rintro e w2 ⟨v', c, rfl, hca, hgc, hb2⟩
  rw [HT.out] at hca
  have hcn := Hcl.out c hca
  obtain ⟨vo3, vr3, rfl, ho3, hr3⟩ := hgc
  obtain ⟨ao3, co3, rfl, _⟩ := ho3.slice
  obtain ⟨ar3, cr3, rfl, _⟩ := hr3.slice
  have hM2 := (HM1.out.call hb2).alloc #[.slice ao3 c.objs.length co3, .slice ar3 c.roots.length cr3] 25
  obtain ⟨W2, hW2⟩ : ∃ W2, w2.alloc (.cells #[.slice ao3 c.objs.length co3, .slice ar3 c.roots.length cr3] 25) = W2 := ⟨_, rfl⟩
  rw [hW2] at hM2
  obtain ⟨b9, hb9⟩ : ∃ b9, w2.heap.size = b9 := ⟨_, rfl⟩
  rw [hb9] at hM2
  have h0 := hM2.cell 5 rfl 0
  have h1 := hM2.cell 5 rfl 1
  have hb := (hM2.box 5 rfl).2.1
  have d0 := hM2.cell 1 rfl 0
  have d1 := hM2.cell 1 rfl 1
  have d2 := hM2.cell 1 rfl 2
  have db := (hM2.box 1 rfl).2.1
  have e0 := hM2.cell 0 rfl 0
  have eb := (hM2.box 0 rfl).2.1
  have tO := hM2.isTup 2 rfl (fun _ => rfl) (by have := Hlo.out; omega)
  have tT := hM2.isTup 3 rfl (fun _ => rfl) (by have := HnT.out; omega)
  have tG := isInts_of_own (hM2.row 4 rfl) (by have := HnK.out; omega) Hgok.out
  have HNz := Lib.hid hM2
  have HObj := Lib.hid (cObjs w nT aT cT T1 HnT.out (by omega))
  have HRis := Lib.hid (cRis w nT (T1.map Prod.fst) (by rw [List.length_map]; exact HnT.out) (by omega) (fun x hx => by
    obtain ⟨p, hp, rfl⟩ := List.mem_map.1 hx
    exact (Hpos.out p hp).2.1) Hris.out)
  have HMad := Lib.hid (cMade w g (.agg #[.slice ao g.objs.length co, .slice ar g.roots.length cr]) (.slice au L cu) aO cO ds O1 L M Hg.out (by have := HG.out.objs; omega) Hu.out HL.out hn Hlo.out HMd.out)
  have HSpl := Lib.hid (cSplit w M nT nK aG cG (T1.map Prod.fst) G1 (by have := HG.out.objs; have := madeN_le ds O1; rw [HL.out] at this; have := HMd.out; omega) (by rw [List.length_map]; exact HnT.out) (by omega) (fun x hx => by
    obtain ⟨p, hp, rfl⟩ := List.mem_map.1 hx
    exact (Hpos.out p hp).2.1) HnK.out (by omega) Hgok.out Htg.out)
  unfold CObjs at HObj
  unfold CRis at HRis
  unfold CMade at HMad
  unfold CSplit at HSpl
  have HW2 := Lib.hid hW2
  have Hb9 := Lib.hid hb9
  clear hM2 hW2 hb9 hca hb2 ho3 hr3 g0 g1 gb c0 cb HTo HM1 HW1 Hb7 tO tT tG
  go_upto_region 5 with (fail)
  rw [HW2.out, Hb9.out]
  clear HW2 Hb9
  go_cut [56] (fun s56 W => s56 = .bool false ∧ Mem w.heap.size w W [ebox b9 #[.slice ao3 c.objs.length co3, .slice ar3 c.roots.length cr3] 25, ebox b7 #[.slice aO L cO, .slice aT nT cT, .slice aG nK cG] 41, rowT 89 3 cellsO (.slice aO L cO) O1, rowT 53 2 cellsC (.slice aT nT cT) T1, rowI 3 (.slice aG nK cG) G1, ebox w.heap.size #[.slice ao g.objs.length co, .slice ar g.roots.length cr] 25])
  case first =>
    go_region_held3 (fun X => (X.cell? ⟨b7, 0, none⟩ = some (.slice aO L cO) ∧ X.cell? ⟨b7, 1, none⟩ = some (.slice aT nT cT) ∧ X.cell? ⟨b7, 2, none⟩ = some (.slice aG nK cG)) ∧ X.cell? ⟨w.heap.size, 0, none⟩ = some (.slice ao g.objs.length co) ∧ X.cell? ⟨w.heap.size, 1, none⟩ = some (.slice ar g.roots.length cr))
      (first | (apply keep5; (focus (repeat (first | exact hR | exact HNz.out | with_reducible apply Mem.drew | with_reducible apply Mem.alloc | with_reducible apply Mem.setBox0))); (focus (repeat (first | exact List.mem_cons_self | refine List.mem_cons_of_mem _ ?_))); (focus (repeat (first | exact List.mem_cons_self | refine List.mem_cons_of_mem _ ?_)))) | fail)
      (first
        | (go_at_call 26
           apply HObj.out
           (focus (repeat (first | exact hR | exact HNz.out | with_reducible apply Mem.drew | with_reducible apply Mem.alloc | with_reducible apply Mem.setBox0)))
           (focus (repeat (first | exact List.mem_cons_self | refine List.mem_cons_of_mem _ ?_)))
           intro a5 c5 w5 hR)
        | (go_at_call 25
           apply HRis.out
           (focus (repeat (first | exact hR | exact HNz.out | with_reducible apply Mem.drew | with_reducible apply Mem.alloc | with_reducible apply Mem.setBox0)))
           (focus (repeat (first | exact List.mem_cons_self | refine List.mem_cons_of_mem _ ?_)))
           intro w6 hR)
        | (go_at_call 28
           apply HMad.out
           (focus (repeat (first | exact hR | exact HNz.out | with_reducible apply Mem.drew | with_reducible apply Mem.alloc | with_reducible apply Mem.setBox0)))
           (focus (repeat (first | exact List.mem_cons_self | refine List.mem_cons_of_mem _ ?_)))
           intro w7 hR)
        | (go_at_call 27
           apply HSpl.out
           (focus (repeat (first | exact hR | exact HNz.out | with_reducible apply Mem.drew | with_reducible apply Mem.alloc | with_reducible apply Mem.setBox0)))
           (focus (repeat (first | exact List.mem_cons_self | refine List.mem_cons_of_mem _ ?_)))
           (focus (repeat (first | exact List.mem_cons_self | refine List.mem_cons_of_mem _ ?_)))
           intro w8 hR)
        | fail)
    all_goals
      go_wp2_with fail
      go_meet
      refine ⟨rfl, ?_⟩
      apply mem_cps
      (focus (repeat (first | exact hR | exact HNz.out | with_reducible apply Mem.drew | with_reducible apply Mem.alloc | with_reducible apply Mem.setBox0)))
      intro hF
      exact hF.drop (by repeat (first | exact List.Sublist.refl _ | refine List.Sublist.cons _ ?_))
  case rest =>
    obtain ⟨rfl, hcut⟩ := hcut
    clear HNz HObj HRis HMad HSpl
    have hT0 := hcut.cell 1 rfl 1
    have hTb := (hcut.box 1 rfl).2.1
    have hG0 := hcut.cell 0 rfl 0
    have hGb := (hcut.box 0 rfl).2.1
    have HM := Lib.hid hcut
    clear hcut d0 d1 d2 db e0 eb h0 h1 hb
    go_upto_region 8 with (fail)
    go_loopw [12, 60] (fun _ s60 wq => ∃ k : Nat, k ≤ nT ∧ s60 = .int .i64 (k : Int) ∧ Below wc.heap.size wc wq) (fun _ i _ => nT - (intOf i).toNat)
    case atStart => exact ⟨0, Nat.zero_le _, rfl, Below.refl _ _⟩
    case round =>
      obtain ⟨k, hk, rfl, hB⟩ := hrel
      have hMr := HM.out.call hB
      by_cases hlt : k < nT
      · obtain ⟨p, hp⟩ := get_some T1 k (by rw [HnT.out]; exact hlt)
        have tT := hMr.isTup 3 rfl (fun _ => rfl) (by have := HnT.out; omega)
        obtain ⟨b, off, rfl, _, hb2, hc⟩ := tT.at2 (Below.refl _ _) hp
        have hp2 := (Hpos.out p (List.mem_of_getElem? hp)).1
        obtain ⟨p1, p2⟩ := p
        have c0 : wr.cell? ⟨b, off + k * 2, none⟩ = some (.int .i64 p1) := hc 0 _ rfl
        have c1 : wr.cell? ⟨b, off + k * 2 + 1, none⟩ = some (.int .i64 p2) := hc 1 _ rfl
        have e2 : (k : Int) < (nT : Int) := by omega
        have e3 : ¬ p2 < 1 := by simp only at hp2; omega
        have HB := Lib.hid (hB.alloc hB.size (.cells #[.int .i64 p1, .int .i64 p2] 53))
        clear hp hc hB hMr tT hp2 hT0 hG0
        go_wp2_with fail
        go_roundw
        case rel => exact ⟨k + 1, by omega, by go_num, HB.out⟩
        case measure => simp [intOf]; omega
      · obtain rfl : k = nT := by omega
        have s0 := hMr.cell 1 rfl 1
        have sb := (hMr.box 1 rfl).2.1
        have r0 := hMr.cell 0 rfl 0
        have rb := (hMr.box 0 rfl).2.1
        have e3 : (c.objs.length : Int) ≤ (k : Int) := by omega
        have HB := Lib.hid hMr.below
        clear hMr hB hT0 hG0 hTb hGb
        go_wp2
        go_ret
        exact ⟨rfl, HB.out⟩
end Go.Proofs.Ytmmcjjklmcfegaa
