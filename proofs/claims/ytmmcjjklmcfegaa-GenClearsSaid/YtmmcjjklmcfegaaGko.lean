/- GenClears, walked. -/
import Derived.Test.YtmmcjjklmcfegaaGkn
import Derived.Test.YtmmcjjklmcfegaaBase16
import Derived.Test.YtmmcjjklmcfegaaU2
import Derived.Test.YtmmcjjklmcfegaaT2
import Derived.Test.YtmmcjjklmcfegaaWks
import Derived.Test.YtmmcjjklmcfegaaBeh
import Derived.Deep.RegionHeld3
import Derived.Deep.DeepCutAuto
namespace Go.Proofs.Ytmmcjjklmcfegaa
open Go.RowKit Go.Shelf

theorem gstep_work (room : Int) (s : Sm Gx) : (gstep room s dWk).1 = minorS s := by unfold gstep; rw [if_pos (show dWk.kind = 8 from rfl)]
theorem gstep_sweep (room : Int) (s : Sm Gx) : (gstep room s dSw).1 = majorS s := by unfold gstep; rw [if_neg (show ¬ dSw.kind = 8 by decide), if_pos (show dSw.kind = 9 from rfl)]
theorem minor_ages (S : Sm Gx) : ∀ p ∈ ages (minorS S) (minorS S).os.length, p.2 = 1 := by
  intro p hp
  rw [ages_mem] at hp
  rw [hp.2, if_pos (minor_old S hp.1)]
theorem major_ages {room : Int} {S : Sm Gx} (h : InvG room S) : ∀ p ∈ ages (majorS S) (majorS S).os.length, p.2 = 1 := by
  intro p hp
  rw [ages_mem] at hp
  rw [hp.2, if_pos (h.major_old hp.1)]
theorem major_minor_le {room : Int} {S : Sm Gx} (h : InvG room S) : (ages (majorS S) (majorS S).os.length).length ≤ (ages (minorS S) (minorS S).os.length).length := by
  rw [ages_len, ages_len]
  refine nodup_sub_le _ _ (rising_nodup (thereL_rising _ _)) fun x hx => ?_
  have h1 := ((mem_thereL (Nat.le_refl _)).1 hx).1
  have h3 : RchM S.regs S.os x := (h.majorKin.rch (i := x)).1 (h.major_tight h1)
  have h4 : Lives (minorS S).os x := by
    show Lives (killed S.os (oldL (keptG S))) x
    rw [killed_lives, mem_oldL]
    exact ⟨h.led h3, (h.led h3).1, h.kept h3⟩
  exact (mem_thereL (Nat.le_refl _)).2 ⟨h4, by have := h4.lt; have := h4.1; omega⟩
/-- Play, in any world of this call, where nothing is remembered. -/
def GPlay5 (room : Int) (g : G) (ds : List Dd) (v u : Value) (w : World) (n nT : Nat) : Prop :=
  ∀ (X : World) (L : List Ent) (R : Ending → World → Prop), Mem w.heap.size w X L → IsTup 5 cellsD X u ds →
    (∀ aD cD aH cH aR cR w', Mem w.heap.size w w' (rowT 89 3 cellsO (.slice aD n cD) (runs (gstep room) (startG g) ds).2 :: rowT 53 2 cellsC (.slice aH nT cH) (ages (runs (gstep room) (startG g) ds).1 (runs (gstep room) (startG g) ds).1.os.length) :: L) → Below X.heap.size X w' →
      R (.returned (.tuple #[.agg #[.slice aD n cD, .slice aH nT cH, .slice aR 0 cR], .int .i64 0])) w') →
    Calls Try.prog 35 #[v, .int .i64 room, u] X R
theorem gPlay5 (room : Int) (hrm : 1 ≤ room ∧ room ≤ 64) (g : G) (hG : Good g) (v u : Value) (ds : List Dd) (w : World) (hg : IsGraph w v g) (hd : ∀ d ∈ ds, DdOk d) (hn : ds.length ≤ 100) (n nT : Nat) (hnn : ds.length = n) (hnT : (ages (runs (gstep room) (startG g) ds).1 (runs (gstep room) (startG g) ds).1.os.length).length = nT)
    (hrem : ∀ p, (runs (gstep room) (startG g) ds).1.x.rem p = false) : GPlay5 room g ds v u w n nT := by
  intro X L R hM hu hR
  refine (gplay_yes room hrm g hG v u ds X (hg.later hM.below) hu hd hn).mono ?_
  rintro e w' ⟨s, vo, vt, vr, Rl, hs, rfl, hr1, hr2, hM2⟩
  have hl : (runs (gstep room) (startG g) ds).2.length = ds.length := runs_len _ _ _
  have hI := runsG_inv hG hrm.1 ds.length ds (Nat.le_refl _) hn
  rw [List.take_length, ← hs] at hI
  have hal : (ages s s.os.length).length ≤ 1000 := by
    rw [ages_len]
    have := thereL_len s.os s.os.length
    have := hI.1.len
    omega
  have hRl : Rl = [] := by
    cases Rl with
    | nil => rfl
    | cons p l =>
      have h1 := hr1 p (List.mem_cons_self ..)
      rw [hs, hrem p] at h1
      cases h1
  subst hRl
  have t1 := hM2.isTup 0 rfl (fun _ => rfl) (by rw [hl]; omega)
  have t2 := hM2.isTup 1 rfl (fun _ => rfl) (by omega)
  have t3 := hM2.isTup 2 rfl (fun _ => rfl) (by omega)
  obtain ⟨aO, cO, rfl, _⟩ := t1.slice
  obtain ⟨aT, cT, rfl, _⟩ := t2.slice
  obtain ⟨aR, cR, rfl, _⟩ := t3.slice
  have hM3 := hM.callMem (hM2.drop (.cons_cons _ (.cons_cons _ (List.sublist_cons_self _ _))))
  subst hs
  rw [hl, hnn] at hM3 ⊢
  rw [hnT] at hM3 ⊢
  exact hR aO cO aT cT aR cR w' hM3 hM2.below
theorem Mem.fresh0T {B : Nat} {w0 w : World} {L : List Ent} {α : Type} (h : Mem B w0 w L) (e : TypeId) (sz : Nat) (enc : α → List Value) : Mem B w0 (w.alloc (.cells #[] e)) (rowT e sz enc (.slice (some ⟨w.heap.size, 0, none⟩) 0 0) [] :: L) := by
  refine (h.alloc_ _).cons _ ⟨?_, ?_⟩ ?_
  · intro b e; cases e; exact ⟨h.base, by simp⟩
  · exact ⟨by simp, .inr ⟨w.heap.size, 0, #[], rfl, heap_alloc_new w _, Nat.le_refl _, by simp, by simp, by simp⟩⟩
  · intro y hy b e e'
    cases e
    exact absurd (h.lt hy _ e').2 (Nat.lt_irrefl _)
theorem cellsC_len (x : Int × Int) : (cellsC x).length = 2 := rfl
theorem ints2_newH {B : Nat} {w0 w : World} {L : List Ent} (h : Mem B w0 w L) {x y : Int} (hx : i64ok x) (hy : i64ok y) (t : TypeId) : IsInts (w.alloc (.cells #[.int .i64 x, .int .i64 y] t)) (.slice (some ⟨w.heap.size, 0, none⟩) 2 2) [x, y] := by
  have hM := h.alloc #[.int .i64 x, .int .i64 y] t
  refine ⟨some ⟨w.heap.size, 0, none⟩, 2, rfl, by simp, fun k z hk => ?_⟩
  match k with
  | 0 => cases hk; exact ⟨_, 0, rfl, by simp, hM.cell 0 rfl 0, hx⟩
  | 1 => cases hk; exact ⟨_, 0, rfl, by simp, hM.cell 0 rfl 1, hy⟩
  | k + 2 => simp at hk
theorem dWk_ok : DdOk dWk := by constructor <;> exact ⟨by decide, by decide⟩
theorem dSw_ok : DdOk dSw := by constructor <;> exact ⟨by decide, by decide⟩
set_option maxRecDepth 100000 in
set_option maxHeartbeats 8000000 in
theorem genClears_good (g : G) (hG : Good g) (v : Value) (au : Option Addr) (cu : Nat) (room : Int) (hrm : 1 ≤ room ∧ room ≤ 64) (ds : List Dd) (w : World) (hg : IsGraph w v g) (hu : IsTup 5 cellsD w (.slice au ds.length cu) ds) (hd : ∀ d ∈ ds, DdOk d) (hn : ds.length < 100) :
    Calls Try.prog 14 #[v, .int .i64 room, .slice au ds.length cu] w fun e w' => e = .returned (.bool true) ∧ Below w.heap.size w w' := by
  have Hg := Lib.hid hg
  obtain ⟨vo, vr, rfl, ho, hr⟩ := hg
  obtain ⟨ao, co, rfl, hlo⟩ := ho.slice
  obtain ⟨ar, cr, rfl, hlr⟩ := hr.slice
  have hM0 := (Mem.start w).alloc #[.slice ao g.objs.length co, .slice ar g.roots.length cr] 25
  obtain ⟨L, hL⟩ : ∃ L, ds.length = L := ⟨_, rfl⟩
  -- the plain law
  have hi := (runsG_inv hG hrm.1 ds.length ds (Nat.le_refl _) (by omega)).1
  rw [List.take_length] at hi
  obtain ⟨S, hS⟩ : ∃ S, (runs (gstep room) (startG g) ds).1 = S := ⟨_, rfl⟩
  rw [hS] at hi
  have ha1 : (runs (gstep room) (startG g) (ds ++ [dWk])).1 = minorS S := by rw [runs_snoc, hS]; exact gstep_work room S
  have hb1 : (runs (gstep room) (startG g) (ds ++ [dSw])).1 = majorS S := by rw [runs_snoc, hS]; exact gstep_sweep room S
  have hda : ∀ d ∈ ds ++ [dWk], DdOk d := by
    intro d h
    rcases List.mem_append.1 h with h | h
    · exact hd d h
    · rw [List.mem_singleton.1 h]; exact dWk_ok
  have hdb : ∀ d ∈ ds ++ [dSw], DdOk d := by
    intro d h
    rcases List.mem_append.1 h with h | h
    · exact hd d h
    · rw [List.mem_singleton.1 h]; exact dSw_ok
  have hla : (ds ++ [dWk]).length = L + 1 := by rw [List.length_append, hL]; rfl
  have hlb : (ds ++ [dSw]).length = L + 1 := by rw [List.length_append, hL]; rfl
  obtain ⟨n, hnn⟩ : ∃ n, L + 1 = n := ⟨_, rfl⟩
  rw [hnn] at hla hlb
  obtain ⟨t, ht1, ht2, ht3⟩ := gen_told hG hrm.1 (ds := ds ++ [dSw]) (by rw [hlb]; omega)
  rw [hb1] at ht2
  have hcl : ∀ c, CanonS (gOf t.regs t.os) c → c.objs.length = (ages (majorS S) (majorS S).os.length).length := by
    intro c hc
    rw [canon_eq ht2 ht3 hc fun x hx => hi.major_tight hx, ages_len]
    rfl
  have hle := major_minor_le hi
  have hA1 := minor_ages S
  have hA2 := major_ages hi
  have hlen1 : (ages (minorS S) (minorS S).os.length).length ≤ 1000 := by
    rw [ages_len]
    have h1 := thereL_len (minorS S).os (minorS S).os.length
    have h2 : (minorS S).os.length = S.os.length := killed_len' S
    have := hi.len
    omega
  obtain ⟨nA, hnA⟩ : ∃ n, (ages (minorS S) (minorS S).os.length).length = n := ⟨_, rfl⟩
  obtain ⟨nB, hnB⟩ : ∃ n, (ages (majorS S) (majorS S).os.length).length = n := ⟨_, rfl⟩
  have HP1 := Lib.hid (gPlay5 room hrm g hG (.agg #[.slice ao g.objs.length co, .slice ar g.roots.length cr]))
  have HP1 := fun u => Lib.hid (HP1.out u (ds ++ [dWk]) w Hg.out hda (by rw [hla]; omega) n nA hla (by rw [ha1]; exact hnA) (by rw [ha1]; exact fun _ => rfl))
  have HP2 := fun u => Lib.hid (gPlay5 room hrm g hG (.agg #[.slice ao g.objs.length co, .slice ar g.roots.length cr]) u (ds ++ [dSw]) w Hg.out hdb (by rw [hlb]; omega) n nB hlb (by rw [hb1]; exact hnB) (by rw [hb1]; exact fun _ => rfl))
  unfold GPlay5 at HP1 HP2
  rw [ha1] at HP1
  rw [hb1] at HP2
  rw [hnA] at hle hlen1
  rw [hnB] at hle hcl
  obtain ⟨A1, hA1e⟩ : ∃ A1, ages (minorS S) (minorS S).os.length = A1 := ⟨_, rfl⟩
  obtain ⟨A2, hA2e⟩ : ∃ A2, ages (majorS S) (majorS S).os.length = A2 := ⟨_, rfl⟩
  obtain ⟨O1, hO1⟩ : ∃ O1, (runs (gstep room) (startG g) (ds ++ [dWk])).2 = O1 := ⟨_, rfl⟩
  obtain ⟨O2, hO2⟩ : ∃ O2, (runs (gstep room) (startG g) (ds ++ [dSw])).2 = O2 := ⟨_, rfl⟩
  have hO2l : O2.length = n := by rw [← hO2, runs_len, hlb]
  rw [hA1e] at HP1 hA1 hnA
  rw [hA2e] at HP2 hA2 hnB
  rw [hO1] at HP1
  rw [hO2] at HP2 ht1
  have HP1 := Lib.hid HP1
  have HP2 := Lib.hid HP2
  have HM0 := Lib.hid hM0
  have HL := Lib.hid hL
  have HG := Lib.hid hG
  have Hu := Lib.hid hu
  have Hcl := Lib.hid hcl
  have HT := Lib.hid ht1
  have HO2l := Lib.hid hO2l
  have HA1 := Lib.hid hA1
  have HA2 := Lib.hid hA2
  have HnA := Lib.hid hnA
  have HnB := Lib.hid hnB
  have Hdb := Lib.hid hdb
  have Hnn := Lib.hid hnn
  have Hlb := Lib.hid hlb
  have Hla := Lib.hid hla
  have Hle := Lib.hid hle
  have Hlen := Lib.hid hlen1
  rw [hL] at Hu hn ⊢
  clear hM0 ho hr hi hS ha1 hb1 hda hdb hla hlb hnn ht1 ht2 ht3 hcl hle hA1 hA2 hlen1 hnA hnB hA1e hA2e hO1 hO2 hO2l hL hG hd hu
  have e100 : ¬ (100 : Int) ≤ (L : Int) := by omega
  obtain ⟨W0, hW0⟩ : ∃ W0, w.alloc (.cells #[.slice ao g.objs.length co, .slice ar g.roots.length cr] 25) = W0 := ⟨_, rfl⟩
  have hM0 := HM0.out
  rw [hW0] at hM0
  have HM0 := Lib.hid hM0
  have HW0 := Lib.hid hW0
  have Hwk := Lib.hid (worksK_any 1 (by decide) W0)
  clear hM0 hW0
  go_enter Try.func14, Try.ntmps14
  go_upto_region 3 with (fail)
  rw [HW0.out]
  clear HW0
  go_wp2_with fail
  refine Hwk.out.mono ?_
  rintro e w1 ⟨vD, rfl, hMw⟩
  have hn4 : n ≤ 100 := by have := Hnn.out; omega
  have hM1 := HM0.out.callMem hMw
  have hT1 := isTup_own4 (enc := cellsD) (fun _ => rfl) (hMw.row 0 rfl) (by simp)
  have Hbe := Lib.hid (behind_any (.slice au L cu) vD ds _ w1 (Hu.out.later hM1.below) hT1 (by rw [HL.out]; simp; omega))
  have HM1 := Lib.hid hM1
  clear hM1 hMw hT1 Hwk HM0
  go_wp2_with fail
  refine Hbe.out.mono ?_
  rintro e w2 ⟨va, rfl, hMa⟩
  rw [show List.replicate 1 dWk = [dWk] from rfl] at hMa
  have hM2 := HM1.out.callMem hMa
  have hTa := isTup_own4 (enc := cellsD) (fun _ => rfl) (hMa.row 0 rfl) (by rw [Hla.out]; omega)
  have hMt := hM2.alloc #[.int .i64 9, .int .i64 0, .int .i64 0, .int .i64 0, .int .i64 0] 58
  have hTs := isTup_one (sz := 5) (enc := cellsD) (w := w2) dSw #[.int .i64 9, .int .i64 0, .int .i64 0, .int .i64 0, .int .i64 0] rfl 58
  have Hbe2 := Lib.hid (behind_any (.slice au L cu) _ ds _ _ (Hu.out.later hMt.below) hTs (by rw [HL.out]; simp; omega))
  have HMt := Lib.hid hMt
  have HTa := Lib.hid hTa
  clear hM2 hMa hTa hMt hTs Hbe HM1
  go_wp2_with fail
  refine Hbe2.out.mono ?_
  rintro e w3 ⟨vb, rfl, hMb⟩
  have hM3 := (HMt.out.callMem hMb).drop (L' := [rowT 58 5 cellsD vb (ds ++ [dSw]), rowT 58 5 cellsD va (ds ++ [dWk]), ebox w.heap.size #[.slice ao g.objs.length co, .slice ar g.roots.length cr] 25]) (.cons_cons _ (.cons _ (.cons_cons _ (.cons _ (List.Sublist.refl _)))))
  have hTa := hM3.isTup 1 rfl (fun _ => rfl) (by rw [Hla.out]; omega)
  have hTb := hM3.isTup 0 rfl (fun _ => rfl) (by rw [Hlb.out]; omega)
  obtain ⟨aa, ca, hae, _⟩ := hTa.slice
  obtain ⟨ab, cb, hbe, _⟩ := hTb.slice
  rw [Hla.out] at hae
  rw [Hlb.out] at hbe
  subst hae hbe
  have p0 := hM3.cell 2 rfl 0
  have p1 := hM3.cell 2 rfl 1
  have pb := (hM3.box 2 rfl).2.1
  have HM3 := Lib.hid hM3
  have HTa := Lib.hid hTa
  clear hM3 hMb hTa hTb Hbe2 HMt
  go_wp2_with fail
  refine (HP1.out _).out _ _ _ HM3.out HTa.out ?_
  intro aO cO aT cT aR cR w4 hM4 _
  have hM5 := hM4.alloc #[.slice aO n cO, .slice aT nA cT, .slice aR 0 cR] 68
  obtain ⟨W5, hW5⟩ : ∃ W5, w4.alloc (.cells #[.slice aO n cO, .slice aT nA cT, .slice aR 0 cR] 68) = W5 := ⟨_, rfl⟩
  rw [hW5] at hM5
  obtain ⟨b9, hb9⟩ : ∃ b9, w4.heap.size = b9 := ⟨_, rfl⟩
  rw [hb9] at hM5
  have hTb := hM5.isTup 3 rfl (fun _ => rfl) (by rw [Hlb.out]; omega)
  have p0' := hM5.cell 5 rfl 0
  have p1' := hM5.cell 5 rfl 1
  have pb' := (hM5.box 5 rfl).2.1
  have HM5 := Lib.hid hM5
  have HTb := Lib.hid hTb
  have HW5 := Lib.hid hW5
  have Hb9 := Lib.hid hb9
  clear hM4 hM5 hTb hW5 hb9 HP1 HM3 HTa p0 p1 pb
  go_upto_region 6 with (fail)
  rw [HW5.out, Hb9.out]
  clear HW5 Hb9
  go_wp2_with fail
  refine (HP2.out _).out _ _ _ HM5.out HTb.out ?_
  intro aO2 cO2 aT2 cT2 aR2 cR2 w6 hM6 _
  have hM7 := hM6.alloc #[.slice aO2 n cO2, .slice aT2 nB cT2, .slice aR2 0 cR2] 68
  obtain ⟨W7, hW7⟩ : ∃ W7, w6.alloc (.cells #[.slice aO2 n cO2, .slice aT2 nB cT2, .slice aR2 0 cR2] 68) = W7 := ⟨_, rfl⟩
  rw [hW7] at hM7
  obtain ⟨b11, hb11⟩ : ∃ b11, w6.heap.size = b11 := ⟨_, rfl⟩
  rw [hb11] at hM7
  have hTb := hM7.isTup 6 rfl (fun _ => rfl) (by rw [Hlb.out]; omega)
  have hO := hM7.isTup 1 rfl (fun _ => rfl) (by rw [HO2l.out]; omega)
  have p0 := hM7.cell 8 rfl 0
  have p1 := hM7.cell 8 rfl 1
  have pb := (hM7.box 8 rfl).2.1
  have c0 := hM7.cell 0 rfl 0
  have cbx := (hM7.box 0 rfl).2.1
  have hM7b := hM7.alloc #[.int .i64 8, .int .i64 9] 3
  have hTo := told_any g HG.out (.agg #[.slice ao g.objs.length co, .slice ar g.roots.length cr]) (.slice ab n cb) (.slice aO2 n cO2) (.slice (some ⟨W7.heap.size, 0, none⟩) 2 2) (ds ++ [dSw]) O2 [8, 9] _ (Hg.out.later hM7b.below) (hTb.later ((Below.refl _ _).alloc (Nat.le_refl _) _)) (hO.later ((Below.refl _ _).alloc (Nat.le_refl _) _)) (ints2_newH hM7 ⟨by omega, by omega⟩ ⟨by omega, by omega⟩ 3) Hdb.out (by rw [Hlb.out]; omega) (by rw [HO2l.out, Hlb.out]) (by rw [HT.out])
  have HM7b := Lib.hid hM7b
  have HTo := Lib.hid hTo
  have HW7 := Lib.hid hW7
  have Hb11 := Lib.hid hb11
  clear hM6 hM7 hM7b hTo hTb hO hW7 hb11 HP2 HM5 HTb p0' p1' pb'
  go_upto_region 7 with (fail)
  rw [HW7.out, Hb11.out]
  clear HW7 Hb11
  go_wp2_with fail
  refine HTo.out.mono ?_
  rintro e w8 ⟨v', c, rfl, hca, hgc, hb8⟩
  rw [HT.out] at hca
  have hcn := Hcl.out c hca
  obtain ⟨vo3, vr3, rfl, ho3, hr3⟩ := hgc
  obtain ⟨ao3, co3, rfl, _⟩ := ho3.slice
  obtain ⟨ar3, cr3, rfl, _⟩ := hr3.slice
  rw [hcn]
  have hM9 := ((HM7b.out.call hb8).drop (List.sublist_cons_self _ _)).alloc #[.slice ao3 nB co3, .slice ar3 c.roots.length cr3] 25
  obtain ⟨W9, hW9⟩ : ∃ W9, w8.alloc (.cells #[.slice ao3 nB co3, .slice ar3 c.roots.length cr3] 25) = W9 := ⟨_, rfl⟩
  rw [hW9] at hM9
  obtain ⟨b13, hb13⟩ : ∃ b13, w8.heap.size = b13 := ⟨_, rfl⟩
  rw [hb13] at hM9
  have d0 := hM9.cell 0 rfl 0
  have db := (hM9.box 0 rfl).2.1
  have e1 := hM9.cell 1 rfl 1
  have e2 := hM9.cell 1 rfl 2
  have eb := (hM9.box 1 rfl).2.1
  have f1 := hM9.cell 4 rfl 1
  have f2 := hM9.cell 4 rfl 2
  have fb := (hM9.box 4 rfl).2.1
  have HM9 := Lib.hid hM9
  have HW9 := Lib.hid hW9
  have Hb13 := Lib.hid hb13
  have q1 : ¬ (nA : Int) < (nB : Int) := by have := Hle.out; omega
  have q2 : decide ((nA : Int) < (nB : Int)) = false := by simpa using q1
  have q3 : ((nB : Int) != (nB : Int)) = false := by simp
  clear hM9 hW9 hb13 hca hb8 ho3 hr3 hcn HTo HM7b p0 p1 pb c0 cbx
  go_upto_region 10 with (fail)
  rw [HW9.out, Hb13.out]
  clear HW9 Hb13
  go_upto_region 12 with (fail)
  obtain ⟨N, hN⟩ : ∃ N, (([] ++ A1) ++ A2).length = N := ⟨_, rfl⟩
  have hNb : N ≤ 2000 := by
    rw [← hN]
    have h1 := HnA.out
    have h2 := HnB.out
    have h3 := Hle.out
    have h4 := Hlen.out
    simp; omega
  have hAA : ∀ p ∈ ([] ++ A1) ++ A2, p.2 = 1 := by
    intro p hp
    rw [List.nil_append] at hp
    rcases List.mem_append.1 hp with h | h
    · exact HA1.out p h
    · exact HA2.out p h
  have hMf := (HM9.out.fresh0T 53 2 cellsC).drew
  have hTA := hMf.isTup 7 rfl (fun _ => rfl) (by have := HnA.out; have := Hlen.out; omega)
  have q9 := hMf.cell 5 rfl 1
  have q11 := hMf.cell 2 rfl 1
  have HN := Lib.hid hN
  have HNb := Lib.hid hNb
  have HAA := Lib.hid hAA
  have HMf := Lib.hid hMf
  have HTA := Lib.hid hTA
  clear hN hNb hAA hMf hTA d0 db e2 f2 q1 q2 q3
  go_cut [97, 98, 99] (fun s97 s98 s99 W' => ∃ a6 c6, s97 = .slice a6 N c6 ∧ s98 = .int .i64 (N : Int) ∧ s99 = .int .i64 0 ∧ Mem w.heap.size w W' [rowT 53 2 cellsC (.slice a6 N c6) (([] ++ A1) ++ A2)])
  case first =>
    go_region_held3 (fun X => X.cell? ⟨b9, 1, none⟩ = some (.slice aT nA cT) ∧ X.cell? ⟨b11, 1, none⟩ = some (.slice aT2 nB cT2))
      (first | exact ⟨by simpa using f1, by simpa using e1⟩ | exact ⟨q9, q11⟩ | exact ⟨u9, u11⟩ | exact ⟨x9, x11⟩ | fail)
      (first
        | (refine Mem.step_appTl elemCounts cellsC_len cellsC_one rfl (.tmp 91) (.tmp 93) rfl HMf.out 0 rfl rfl rfl HTA.out (by have := HnA.out; have := Hlen.out; simp; omega) (by decide) ?_
           intro v5 w5 hM5 hs5 hk5
           have u9 := hM5.cell 5 rfl 1
           have u11 := hM5.cell 2 rfl 1
           have hTB := hM5.isTup 4 rfl (fun _ => rfl) (by have := HnB.out; have := Hle.out; have := Hlen.out; omega)
           have HM5 := Lib.hid hM5
           have HTB := Lib.hid hTB
           clear hM5 hTB hs5 hk5)
        | (refine Mem.step_appTl elemCounts cellsC_len cellsC_one rfl (.tmp 94) (.tmp 96) rfl HM5.out 0 rfl rfl rfl HTB.out (by have := HnA.out; have := HnB.out; have := Hle.out; have := Hlen.out; simp; omega) (by decide) ?_
           intro v6 w6 hM6 hs6 hk6
           have x9 := hM6.cell 5 rfl 1
           have x11 := hM6.cell 2 rfl 1
           have t6 := hM6.isTup 0 rfl (fun _ => rfl) (by rw [HN.out]; have := HNb.out; omega)
           obtain ⟨a6, c6, he6, _⟩ := t6.slice
           rw [HN.out] at he6
           subst he6
           have HM6 := Lib.hid hM6
           clear hM6 t6 hs6 hk6)
        | fail)
    all_goals
      go_wp2_with fail
      go_meet
      exact ⟨a6, c6, rfl, rfl, rfl, HM6.out.drop (.cons_cons _ (List.nil_sublist _))⟩
  case rest =>
    obtain ⟨a6, c6, rfl, rfl, rfl, hM⟩ := hcut
    obtain ⟨AA, hAe⟩ : ∃ AA, ([] ++ A1) ++ A2 = AA := ⟨_, rfl⟩
    have hN := HN.out
    have hAA := HAA.out
    rw [hAe] at hM hN hAA
    have HM := Lib.hid hM
    have HNN := Lib.hid hN
    have HA := Lib.hid hAA
    clear hM hN hAA hAe HN HAA HMf HTA HM9 q9 q11 e1 f1 eb fb
    go_wp2_with fail
    go_loopw [16, 99] (fun _ s99 wr => ∃ k : Nat, k ≤ N ∧ s99 = .int .i64 (k : Int) ∧ Mem w.heap.size w wr [rowT 53 2 cellsC (.slice a6 N c6) AA]) (fun _ i _ => N - (intOf i).toNat)
    case atStart => exact ⟨0, Nat.zero_le _, rfl, HM.out⟩
    case round =>
      clear HM
      obtain ⟨k, hk, rfl, hM⟩ := hrel
      by_cases hlt : k < N
      · obtain ⟨z, hz⟩ := get_some AA k (by rw [HNN.out]; exact hlt)
        have hz1 := HA.out z (List.mem_of_getElem? hz)
        have t1 := hM.isTup 0 rfl (fun _ => rfl) (by have := HNN.out; have := HNb.out; omega)
        obtain ⟨bz, offz, capz, hvz, _, hbz2, hcz⟩ := t1.at (Below.refl _ _) hz
        have ha6 : a6 = some ⟨bz, offz, none⟩ := by cases hvz; rfl
        subst ha6
        obtain ⟨z1, z2⟩ := z
        obtain rfl : z2 = 1 := hz1
        have c0 : wr.cell? ⟨bz, offz + k * 2, none⟩ = some (.int .i64 z1) := hcz 0 _ rfl
        have c1 : wr.cell? ⟨bz, offz + k * 2 + 1, none⟩ = some (.int .i64 1) := hcz 1 _ rfl
        have e2 : (k : Int) < (N : Int) := by omega
        have hNb2 := HNb.out
        have hM6 := hM.alloc #[.int .i64 z1, .int .i64 1] 53
        obtain ⟨W6, hW6⟩ : ∃ W6, wr.alloc (.cells #[.int .i64 z1, .int .i64 1] 53) = W6 := ⟨_, rfl⟩
        obtain ⟨b6, hb6⟩ : ∃ b6, wr.heap.size = b6 := ⟨_, rfl⟩
        rw [hW6, hb6] at hM6
        have u1 := hM6.cell 0 rfl 1
        have ub := (hM6.box 0 rfl).2.1
        have HM6 := Lib.hid hM6
        have HW6 := Lib.hid hW6
        have Hb6 := Lib.hid hb6
        clear hM hM6 hW6 hb6 hz t1 hvz hcz
        go_upto_region 15 with (fail)
        rw [HW6.out, Hb6.out]
        go_wp2_with fail
        go_roundw
        case rel => exact ⟨k + 1, by omega, by go_num, HM6.out.drop (List.sublist_cons_self _ _)⟩
        case measure => simp [intOf]; omega
      · obtain rfl : k = N := by omega
        have HB := Lib.hid hM.below
        clear hM
        go_wp2
        go_ret
        exact ⟨rfl, HB.out⟩
set_option maxRecDepth 100000 in
set_option maxHeartbeats 4000000 in
theorem genClears_bad (g : G) (v : Value) (au : Option Addr) (cu : Nat) (room : Int) (ds : List Dd) (hk : ¬ (Good g ∧ (1 ≤ room ∧ room ≤ 64))) (w : World) (hg : IsGraph w v g) (hu : IsTup 5 cellsD w (.slice au ds.length cu) ds) (hn : ds.length < 100) :
    Calls Try.prog 14 #[v, .int .i64 room, .slice au ds.length cu] w fun e w' => e = .returned (.bool true) ∧ Below w.heap.size w w' := by
  have Hg := Lib.hid hg
  obtain ⟨vo, vr, rfl, ho, hr⟩ := hg
  obtain ⟨ao, co, rfl, hlo⟩ := ho.slice
  obtain ⟨ar, cr, rfl, hlr⟩ := hr.slice
  have hM0 := (Mem.start w).alloc #[.slice ao g.objs.length co, .slice ar g.roots.length cr] 25
  obtain ⟨L, hL⟩ : ∃ L, ds.length = L := ⟨_, rfl⟩
  have hla : (ds ++ [dWk]).length = L + 1 := by rw [List.length_append, hL]; rfl
  have hlb : (ds ++ [dSw]).length = L + 1 := by rw [List.length_append, hL]; rfl
  obtain ⟨n, hnn⟩ : ∃ n, L + 1 = n := ⟨_, rfl⟩
  rw [hnn] at hla hlb
  have HL := Lib.hid hL
  have Hu := Lib.hid hu
  have Hla := Lib.hid hla
  have Hlb := Lib.hid hlb
  have Hk := Lib.hid hk
  rw [hL] at Hu hn ⊢
  have hn4 : n ≤ 100 := by omega
  clear ho hr hu hla hlb hnn hL hk
  have e100 : ¬ (100 : Int) ≤ (L : Int) := by omega
  obtain ⟨W0, hW0⟩ : ∃ W0, w.alloc (.cells #[.slice ao g.objs.length co, .slice ar g.roots.length cr] 25) = W0 := ⟨_, rfl⟩
  rw [hW0] at hM0
  have HM0 := Lib.hid hM0
  have HW0 := Lib.hid hW0
  have Hwk := Lib.hid (worksK_any 1 (by decide) W0)
  clear hM0 hW0
  go_enter Try.func14, Try.ntmps14
  go_upto_region 3 with (fail)
  rw [HW0.out]
  clear HW0
  go_wp2_with fail
  refine Hwk.out.mono ?_
  rintro e w1 ⟨vD, rfl, hMw⟩
  have hM1 := HM0.out.callMem hMw
  have hT1 := isTup_own4 (enc := cellsD) (fun _ => rfl) (hMw.row 0 rfl) (by simp)
  have Hbe := Lib.hid (behind_any (.slice au L cu) vD ds _ w1 (Hu.out.later hM1.below) hT1 (by rw [HL.out]; simp; omega))
  have HM1 := Lib.hid hM1
  clear hM1 hMw hT1 Hwk HM0
  go_wp2_with fail
  refine Hbe.out.mono ?_
  rintro e w2 ⟨va, rfl, hMa⟩
  rw [show List.replicate 1 dWk = [dWk] from rfl] at hMa
  have hM2 := HM1.out.callMem hMa
  have hMt := hM2.alloc #[.int .i64 9, .int .i64 0, .int .i64 0, .int .i64 0, .int .i64 0] 58
  have hTs := isTup_one (sz := 5) (enc := cellsD) (w := w2) dSw #[.int .i64 9, .int .i64 0, .int .i64 0, .int .i64 0, .int .i64 0] rfl 58
  have Hbe2 := Lib.hid (behind_any (.slice au L cu) _ ds _ _ (Hu.out.later hMt.below) hTs (by rw [HL.out]; simp; omega))
  have HMt := Lib.hid hMt
  clear hM2 hMa hMt hTs Hbe HM1
  go_wp2_with fail
  refine Hbe2.out.mono ?_
  rintro e w3 ⟨vb, rfl, hMb⟩
  have hM3 := (HMt.out.callMem hMb).drop (L' := [rowT 58 5 cellsD vb (ds ++ [dSw]), rowT 58 5 cellsD va (ds ++ [dWk]), ebox w.heap.size #[.slice ao g.objs.length co, .slice ar g.roots.length cr] 25]) (.cons_cons _ (.cons _ (.cons_cons _ (.cons _ (List.Sublist.refl _)))))
  have hTa := hM3.isTup 1 rfl (fun _ => rfl) (by rw [Hla.out]; omega)
  have hTb := hM3.isTup 0 rfl (fun _ => rfl) (by rw [Hlb.out]; omega)
  obtain ⟨aa, ca, hae, _⟩ := hTa.slice
  obtain ⟨ab, cb, hbe, _⟩ := hTb.slice
  rw [Hla.out] at hae
  rw [Hlb.out] at hbe
  subst hae hbe
  have p0 := hM3.cell 2 rfl 0
  have p1 := hM3.cell 2 rfl 1
  have pb := (hM3.box 2 rfl).2.1
  have HP1 := Lib.hid (gplay_noC g _ (.slice aa n ca) room _ _ (Hg.out.later hM3.below) hTa Hk.out)
  have HM3 := Lib.hid hM3
  clear hM3 hMb hTa hTb Hbe2 HMt
  go_wp2_with fail
  refine HP1.out.mono ?_
  rintro e w4 ⟨rfl, hb4⟩
  have hcn := codeP_ne (g := g)
  obtain ⟨cd, hcd⟩ : ∃ cd, codeP g = cd := ⟨_, rfl⟩
  have Hcd := Lib.hid hcd
  rw [hcd] at hcn ⊢
  rw [show NilGr = .agg #[.slice none 0 0, .slice none 0 0, .slice none 0 0] from rfl]
  have hM5 := (HM3.out.call hb4).alloc #[.slice none 0 0, .slice none 0 0, .slice none 0 0] 68
  obtain ⟨W5, hW5⟩ : ∃ W5, w4.alloc (.cells #[.slice none 0 0, .slice none 0 0, .slice none 0 0] 68) = W5 := ⟨_, rfl⟩
  rw [hW5] at hM5
  obtain ⟨b9, hb9⟩ : ∃ b9, w4.heap.size = b9 := ⟨_, rfl⟩
  rw [hb9] at hM5
  have hTb := hM5.isTup 1 rfl (fun _ => rfl) (by rw [Hlb.out]; omega)
  have p0' := hM5.cell 3 rfl 0
  have p1' := hM5.cell 3 rfl 1
  have pb' := (hM5.box 3 rfl).2.1
  have HP2 := Lib.hid (gplay_noC g (.agg #[.slice ao g.objs.length co, .slice ar g.roots.length cr]) (.slice ab n cb) room _ _ (Hg.out.later hM5.below) hTb Hk.out)
  have HM5 := Lib.hid hM5
  have HW5 := Lib.hid hW5
  have Hb9 := Lib.hid hb9
  clear hM5 hTb hW5 hb9 hb4 HP1 HM3 p0 p1 pb hcd
  go_upto_region 6 with (fail)
  rw [HW5.out, Hb9.out]
  clear HW5 Hb9
  go_wp2_with fail
  refine HP2.out.mono ?_
  rintro e w6 ⟨rfl, hb6⟩
  rw [Hcd.out]
  rw [show NilGr = .agg #[.slice none 0 0, .slice none 0 0, .slice none 0 0] from rfl]
  have hM7 := (HM5.out.call hb6).alloc #[.slice none 0 0, .slice none 0 0, .slice none 0 0] 68
  have HB := Lib.hid hM7.below
  have q1 : (cd != 0) = true := by rw [bne, hcn]; rfl
  have q2 : (cd == cd) = true := by simp
  clear hM7 hb6 HP2 HM5
  go_wp2
  go_ret
  exact ⟨rfl, HB.out⟩
set_option maxRecDepth 100000 in
set_option maxHeartbeats 2000000 in
theorem genClears_long (v : Value) (g : G) (au : Option Addr) (cu : Nat) (room : Int) (ds : List Dd) (w : World) (hg : IsGraph w v g) (hn : ¬ ds.length < 100) :
    Calls Try.prog 14 #[v, .int .i64 room, .slice au ds.length cu] w fun e w' => e = .returned (.bool true) ∧ Below w.heap.size w w' := by
  obtain ⟨vo, vr, rfl, ho, hr⟩ := hg
  obtain ⟨ao, co, rfl, hlo⟩ := ho.slice
  obtain ⟨ar, cr, rfl, hlr⟩ := hr.slice
  have hM0 := (Mem.start w).alloc #[.slice ao g.objs.length co, .slice ar g.roots.length cr] 25
  have HB := Lib.hid hM0.below
  have e100 : (100 : Int) ≤ (ds.length : Int) := by omega
  clear hM0 ho hr hlo hlr
  go_enter Try.func14, Try.ntmps14
  go_wp2
  go_ret
  exact ⟨rfl, HB.out⟩
theorem genClears_walk (W : World) (v0 v1 v2 : Value) (g0 : ∃ g, IsGraph W v0 g) (g1 : ∃ x : Int, v1 = .int .i64 x ∧ i64ok x) (g2 : ∃ ds, IsTup 5 cellsD W v2 ds ∧ ∀ d ∈ ds, DdOk d) :
    Calls Try.prog 14 #[v0, v1, v2] W fun e w' => e = .returned (.bool true) ∧ Below W.heap.size W w' := by
  obtain ⟨g, hg⟩ := g0
  obtain ⟨room, rfl, _⟩ := g1
  obtain ⟨ds, hu, hd⟩ := g2
  obtain ⟨a, c, rfl, _⟩ := hu.slice
  by_cases hn : ds.length < 100
  · by_cases hk : Good g ∧ (1 ≤ room ∧ room ≤ 64)
    · exact genClears_good g hk.1 v0 a c room hk.2 ds W hg hu hd hn
    · exact genClears_bad g v0 a c room ds hk W hg hu hn
  · exact genClears_long v0 g a c room ds W hg hn
end Go.Proofs.Ytmmcjjklmcfegaa
