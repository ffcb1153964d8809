/- ideal.Play, walked. -/
import Derived.Test.YtmmcjjklmcfegaaQ4
import Derived.Test.YtmmcjjklmcfegaaBase2
import Derived.Test.YtmmcjjklmcfegaaBcx
namespace Go.Proofs.Ytmmcjjklmcfegaa
open Go.RowKit Go.Shelf

theorem elemOuts : Elem Try.prog 27 89 3 24 (.agg #[.int .i64 0, .bool false, .int .i64 0]) := ⟨by kernel_rfl, info_parts (by kernel_rfl), rfl, by decide⟩
def startI (g : G) : Sm Unit := ⟨firstR g.roots, g.objs.map some, ()⟩
theorem okv_good {g : G} (hG : Good g) {v : V} (hv : v ∈ allV g) : OkV (g.objs.map some) v := by
  have h := hG.vals v hv
  unfold badC at h
  constructor
  · intro hr
    rw [if_pos hr] at h
    split at h
    · cases h
    · rename_i h1
      obtain ⟨o, ho⟩ := get_some g.objs v.n.toNat (by omega)
      exact ⟨by omega, o, by rw [List.getElem?_map, ho]; rfl⟩
  · intro hr
    rw [if_neg (by rw [hr]; decide)] at h
    split at h
    · cases h
    · omega
theorem startI_inv {g : G} (hG : Good g) : InvI (startI g) := by
  have hobj : ∀ (i : Nat) (l : List V), (g.objs.map some)[i]? = some (some l) → g.objs[i]? = some l := by
    intro i l h
    rw [List.getElem?_map] at h
    obtain ⟨o, h1, h2⟩ := Option.map_eq_some_iff.1 h
    cases h2; exact h1
  refine ⟨⟨firstR_len hG.roots, ?_, ?_, ?_, ?_⟩, ?_, ?_⟩
  · intro v hv
    rcases List.mem_append.1 hv with h1 | h1
    · exact okv_good hG (List.mem_append_left _ h1)
    · rw [List.eq_of_mem_replicate h1]; exact okv_zero _
  · intro i l h
    exact hG.fields l (List.mem_of_getElem? (hobj i l h))
  · intro i l h v hv hr
    exact (okv_good hG (List.mem_append_right _ (List.mem_flatten.2 ⟨l, List.mem_of_getElem? (hobj i l h), hv⟩))).2 hr
  · intro i l h v hv hr
    have h1 := (okv_good hG (List.mem_append_right _ (List.mem_flatten.2 ⟨l, List.mem_of_getElem? (hobj i l h), hv⟩))).1 hr
    have := h1.lt
    have := h1.1
    show 0 ≤ v.n ∧ v.n < ((g.objs.map some).length : Int)
    omega
  · intro i hi
    have hi2 : i < g.objs.length := by simpa [startI] using hi
    exact ⟨_, by show (g.objs.map some)[i]? = _; rw [List.getElem?_map, List.getElem?_eq_getElem hi2]; rfl⟩
  · show (g.objs.map some).length ≤ 900
    have := hG.objs
    simp; omega
theorem runsI_inv {g : G} (hG : Good g) : ∀ (k : Nat) (ds : List Dd), k ≤ ds.length → k ≤ 100 → InvI (runs iKd.step (startI g) (ds.take k)).1 ∧ (runs iKd.step (startI g) (ds.take k)).1.os.length ≤ 24 + k := by
  intro k ds
  induction k with
  | zero =>
    intro _ _
    refine ⟨startI_inv hG, ?_⟩
    show (g.objs.map some).length ≤ _
    have := hG.objs
    simp; omega
  | succ k ih =>
    intro hk h100
    obtain ⟨h1, h2⟩ := ih (by omega) (by omega)
    obtain ⟨d, hd⟩ := get_some ds k (by omega)
    rw [take_succ_some _ _ _ hd, runs_snoc]
    obtain ⟨h3, _, h5⟩ := h1.step (by omega) d
    exact ⟨h3, by simp only; omega⟩
theorem runs_take {X : Type} (st : Sm X → Dd → Sm X × Ot) (s : Sm X) {ds : List Dd} {k : Nat} {d : Dd} (h : ds[k]? = some d) : runs st s (ds.take (k + 1)) = ((st (runs st s (ds.take k)).1 d).1, (runs st s (ds.take k)).2 ++ [(st (runs st s (ds.take k)).1 d).2]) := by
  rw [take_succ_some _ _ _ h]; exact runs_snoc _ _ _ _
/-- Two blocks read as they read. -/
def KeepsB (a b : Nat) (w w' : World) : Prop := (∀ i, w'.cell? ⟨a, i, none⟩ = w.cell? ⟨a, i, none⟩) ∧ ∀ i, w'.cell? ⟨b, i, none⟩ = w.cell? ⟨b, i, none⟩
theorem KeepsB.below {a b : Nat} {w w' : World} (ha : a < w.heap.size) (hb : b < w.heap.size) (h : Below w.heap.size w w') : KeepsB a b w w' := ⟨fun _ => h.cell (p := ⟨_, _, none⟩) ha, fun _ => h.cell (p := ⟨_, _, none⟩) hb⟩
theorem KeepsB.set {a b : Nat} {w w' : World} (h : KeepsB a b w w') {c j : Nat} {u : Value} (ha : a ≠ c) (hb : b ≠ c) : KeepsB a b w (w'.setCell ⟨c, j, none⟩ u) := by
  refine ⟨fun i => ?_, fun i => ?_⟩
  · rw [← h.1 i]
    unfold World.cell?
    rw [Below.heap_setCell _ _ _ _ ha]
  · rw [← h.2 i]
    unfold World.cell?
    rw [Below.heap_setCell _ _ _ _ hb]
/-- What Play hands back. -/
def PlaySays (g : G) (ds : List Dd) (w w' : World) (e : Ending) : Prop :=
  ∃ vl v' c, e = .returned (.tuple #[vl, v', .int .i64 0]) ∧ CanonS (gOf (runs iKd.step (startI g) ds).1.regs (runs iKd.step (startI g) ds).1.os) c ∧ Graft w.heap.size w' v' c ∧ Mem w.heap.size w w' [rowT 89 3 cellsO vl (runs iKd.step (startI g) ds).2]
set_option maxRecDepth 100000 in
set_option maxHeartbeats 4000000 in
theorem iplay_yes (g : G) (hG : Good g) (v u : Value) (ds : List Dd) (w : World) (hg : IsGraph w v g) (hu : IsTup 5 cellsD w u ds) (hd : ∀ d ∈ ds, DdOk d) (hn : ds.length ≤ 100) :
    Calls Try.prog 15 #[v, u] w fun e w' => PlaySays g ds w w' e := by
  have Hg := Lib.hid hg
  have HG := Lib.hid hG
  have Hu := Lib.hid hu
  have hD := Lib.hid hd
  obtain ⟨au, cu, rfl, _⟩ := hu.slice
  obtain ⟨vo, vr, rfl, ho, hr⟩ := hg
  obtain ⟨ao, co, rfl, hlo⟩ := ho.slice
  obtain ⟨ar, cr, rfl, hlr⟩ := hr.slice
  have hM0 := ((Mem.start w).alloc #[.slice ao g.objs.length co, .slice ar g.roots.length cr] 25).alloc #[.slice none 0 0, .slice none 0 0] 25
  simp only [World.size_alloc] at hM0
  have HM0 := Lib.hid hM0
  have hn2 : ¬ (100 : Int) < ds.length := by omega
  clear ho hr hG hu hd hM0
  go_enter Try.func15, Try.ntmps15
  go_wp2_with fail
  refine (gcheck_yes _ g _ (Hg.out.later HM0.out.below) HG.out).mono ?_
  rintro e w1 ⟨rfl, hb1⟩
  have hM1 := HM0.out.call hb1
  have p0 := hM1.cell 1 rfl 0
  have p1 := hM1.cell 1 rfl 1
  have pb := (hM1.box 1 rfl).2.1
  have HM1 := Lib.hid hM1
  clear hM1 hb1 HM0
  go_wp2_with fail
  refine (of_any g HG.out _ w1 (Hg.out.later HM1.out.below)).mono ?_
  rintro e w2 ⟨vO, cs, rfl, hcs, hM2⟩
  obtain ⟨aO, cO, rfl⟩ := (hM2.cast (L' := [rowP vO cs] ++ (objsE cs ++ [])) (by simp)).ptrSlice (oAt_of (A := [rowP vO cs]) (kp := 0) (vo := vO) rfl)
  have hM3 := (HM1.out.callMem hM2).alloc #[.slice aO cs.length cO] 77
  have hcl0 : cs.length = g.objs.length := by have := congrArg List.length hcs; rw [conts_len] at this; simpa using this
  have hM3a := HM1.out.callMem hM2
  have Hcl := Lib.hid hcl0
  have HM3 := Lib.hid hM3
  have Hcs := Lib.hid hcs
  have r0 := hM3a.boxCell (b := w.heap.size) (c := #[.slice ao g.objs.length co, .slice ar g.roots.length cr]) (t := 25) (List.mem_append_right _ (List.mem_cons_of_mem _ (List.mem_cons_self ..))) 0 rfl
  have r1 := hM3a.boxCell (b := w.heap.size) (c := #[.slice ao g.objs.length co, .slice ar g.roots.length cr]) (t := 25) (List.mem_append_right _ (List.mem_cons_of_mem _ (List.mem_cons_self ..))) 1 rfl
  have rb : w.heap.size < w2.heap.size := (hM3a.lt (x := ebox w.heap.size #[.slice ao g.objs.length co, .slice ar g.roots.length cr] 25) (List.mem_append_right _ (List.mem_cons_of_mem _ (List.mem_cons_self ..))) _ rfl).2
  obtain ⟨v0, v1, v2, v3, v4, v5, v6, v7, hv8⟩ := eight (firstR_len HG.out.roots)
  have hrv : regsV (firstR g.roots) = .agg #[.bool v0.ref, .int .i64 v0.n, .bool v1.ref, .int .i64 v1.n, .bool v2.ref, .int .i64 v2.n, .bool v3.ref, .int .i64 v3.n, .bool v4.ref, .int .i64 v4.n, .bool v5.ref, .int .i64 v5.n, .bool v6.ref, .int .i64 v6.n, .bool v7.ref, .int .i64 v7.n] := by rw [hv8]; rfl
  have hFi := first_any g _ (w2.alloc (.cells #[.slice aO cs.length cO] 77)) (Hg.out.later hM3.below) HG.out.roots
  rw [hrv] at hFi
  have HFi := Lib.hid hFi
  have Hv8 := Lib.hid hv8
  clear hM2 hM3 hM3a hcl0 hcs hFi hrv hv8 p0 p1 pb HM1
  go_wp2_with fail
  refine HFi.out.mono ?_
  rintro e w3 ⟨rfl, hb3⟩
  have hM4 := (HM3.out.call hb3).alloc #[.bool v0.ref, .int .i64 v0.n, .bool v1.ref, .int .i64 v1.n, .bool v2.ref, .int .i64 v2.n, .bool v3.ref, .int .i64 v3.n, .bool v4.ref, .int .i64 v4.n, .bool v5.ref, .int .i64 v5.n, .bool v6.ref, .int .i64 v6.n, .bool v7.ref, .int .i64 v7.n, iMv w2.heap.size] 87
  have e : mbox w3.heap.size (firstR g.roots) (iMv w2.heap.size) = ebox w3.heap.size #[.bool v0.ref, .int .i64 v0.n, .bool v1.ref, .int .i64 v1.n, .bool v2.ref, .int .i64 v2.n, .bool v3.ref, .int .i64 v3.n, .bool v4.ref, .int .i64 v4.n, .bool v5.ref, .int .i64 v5.n, .bool v6.ref, .int .i64 v6.n, .bool v7.ref, .int .i64 v7.n, iMv w2.heap.size] 87 := by unfold mbox mcells; rw [Hv8.out]; rfl
  rw [← e] at hM4
  have hM5 := Mem.tuck (x := rowT 89 3 cellsO (.slice none 0 0) []) (y := mbox w3.heap.size (firstR g.roots) (iMv w2.heap.size)) (A := embL w2.heap.size #[.slice aO cs.length cO] 77 (.slice aO cs.length cO) cs []) (T := [ebox (w.heap.size + 1) #[.slice none 0 0, .slice none 0 0] 25, ebox w.heap.size #[.slice ao g.objs.length co, .slice ar g.roots.length cr] 25]) ((hM4.nilT 89 3 cellsO).cast (by simp))
  have HM5 := Lib.hid hM5
  have hcI : IsI w2.heap.size (startI g).os (startI g).x (embL w2.heap.size #[.slice aO cs.length cO] 77 (.slice aO cs.length cO) cs []) := ⟨_, cs, Hcs.out, by have := HG.out.objs; show (g.objs.map some).length ≤ 1000; simp; omega, rfl⟩
  have HcI := Lib.hid hcI
  obtain ⟨bm, hbm⟩ : ∃ bm, w2.heap.size = bm := ⟨_, rfl⟩
  obtain ⟨bx, hbx⟩ : ∃ bx, w3.heap.size = bx := ⟨_, rfl⟩
  obtain ⟨L0, hL0⟩ : ∃ L0, embL w2.heap.size #[.slice aO cs.length cO] 77 (.slice aO cs.length cO) cs [] = L0 := ⟨_, rfl⟩
  clear hM4 hM5 HM3 hb3 r0 r1 HFi hcI e
  go_wp2_with fail
  rw [hL0] at HcI HM5
  clear hL0
  go_loopw [10, 12, 35] (fun s10 _ s35 wr => ∃ (k : Nat) (L : List Ent), k ≤ ds.length ∧ s35 = .int .i64 (k : Int) ∧ Hid (IsI bm (runs iKd.step (startI g) (ds.take k)).1.os (runs iKd.step (startI g) (ds.take k)).1.x L) ∧ HoldsM w.heap.size w bx (runs iKd.step (startI g) (ds.take k)).1.regs (iMv bm) L (rowT 89 3 cellsO s10 (runs iKd.step (startI g) (ds.take k)).2 :: [ebox (w.heap.size + 1) #[.slice none 0 0, .slice none 0 0] 25, ebox w.heap.size #[.slice ao g.objs.length co, .slice ar g.roots.length cr] 25]) wr) (fun _ _ i _ => ds.length - (intOf i).toNat)
  case atStart => subst hbm hbx; exact ⟨0, L0, Nat.zero_le _, rfl, HcI, HM5.out⟩
  case round =>
    clear HM5 HcI rb Hcl Hcs Hv8
    obtain ⟨k, L, hk, rfl, hIs, hM⟩ := hrel
    by_cases hlt : k < ds.length
    · obtain ⟨d, hd⟩ := get_some _ _ hlt
      obtain ⟨b, off, cap, hv, _, hb2, hc⟩ := Hu.out.at (Mem.below hM) hd
      cases hv
      obtain ⟨hI, hol⟩ := runsI_inv HG.out k ds hk (by omega)
      have HS := Lib.hid (runs_take iKd.step (startI g) hd)
      obtain ⟨S, hS⟩ : ∃ S, runs iKd.step (startI g) (ds.take k) = S := ⟨_, rfl⟩
      have hSl : S.2.length = k := by rw [← hS, runs_len, List.length_take]; omega
      rw [hS] at hI hol hM hIs HS
      have hdo := hD.out d (List.mem_of_getElem? hd)
      obtain ⟨dk, dt, df, da, dn⟩ := d
      have c0 : wr.cell? ⟨b, off + k * 5, none⟩ = some (.int .i64 dk) := hc 0 _ rfl
      have c1 : wr.cell? ⟨b, off + k * 5 + 1, none⟩ = some (.int .i64 dt) := hc 1 _ rfl
      have c2 : wr.cell? ⟨b, off + k * 5 + 2, none⟩ = some (.int .i64 df) := hc 2 _ rfl
      have c3 : wr.cell? ⟨b, off + k * 5 + 3, none⟩ = some (.int .i64 da) := hc 3 _ rfl
      have c4 : wr.cell? ⟨b, off + k * 5 + 4, none⟩ = some (.int .i64 dn) := hc 4 _ rfl
      have hMa : HoldsM w.heap.size w bx S.1.regs (iMv bm) L (rowT 89 3 cellsO _ S.2 :: [ebox (w.heap.size + 1) #[.slice none 0 0, .slice none 0 0] 25, ebox w.heap.size #[.slice ao g.objs.length co, .slice ar g.roots.length cr] 25]) (wr.alloc (.cells #[.int .i64 dk, .int .i64 dt, .int .i64 df, .int .i64 da, .int .i64 dn] 58)) := Mem.alloc_ hM _
      have hDo := do_any (iface_ideal w.heap.size w bx bm) S.1 hI ⟨dk, dt, df, da, dn⟩ hdo L _ hIs.out _ hMa
      have HDo := Lib.hid hDo
      clear hc hd hM hMa hDo hIs hS
      go_wp2_with fail
      refine HDo.out.mono ?_
      rintro e w4 ⟨rfl, L', hIs2, hM2⟩
      obtain ⟨S2, hS2⟩ : ∃ S2, iKd.step S.1 ⟨dk, dt, df, da, dn⟩ = S2 := ⟨_, rfl⟩
      rw [hS2] at hIs2 hM2 ⊢
      obtain ⟨s2, oc, orf, on⟩ := S2
      simp only [otV]
      have HIs2 := Lib.hid hIs2
      have HS2 := Lib.hid hS2
      have HM2 := Lib.hid hM2.untuck
      clear hIs2 hM2 HDo hS2
      go_wp2_with (at_builtin; refine Mem.wp_appT elemOuts rfl (.tmp 39) (.tmp 43) rfl HM2.out 0 rfl rfl 1 ⟨oc, orf, on⟩ #[.int .i64 oc, .bool orf, .int .i64 on] rfl _ _ rfl rfl rfl rfl (by decide) (by omega) ?_; intro ad n1 cp w5 hn1 hM7 hs7 hk7 ha7)
      go_roundw
      case rel =>
        refine ⟨k + 1, L', by omega, by go_num, ?_, ?_⟩
        · refine Lib.hid ?_
          rw [HS.out, HS2.out]; exact HIs2.out
        · rw [HS.out, HS2.out]
          exact Mem.tuck hM7
      case measure => simp [intOf]; omega
    · obtain rfl : k = ds.length := by omega
      rw [List.take_length] at hIs hM
      obtain ⟨S, hS⟩ : ∃ S, runs iKd.step (startI g) ds = S := ⟨_, rfl⟩
      have hI := (runsI_inv HG.out ds.length ds (Nat.le_refl _) hn).1
      rw [List.take_length, hS] at hI
      rw [hS] at hIs hM
      obtain ⟨vo2, cs2, hc2, hl2, rfl⟩ := hIs.out
      have hMe := emb_at hM
      obtain ⟨a2, cp2, rfl⟩ := hMe.ptrSlice (emb_oat _)
      have m0 := hMe.cell 1 rfl 0
      have mb := (hMe.box 1 rfl).2.1
      have hMbx := (hMe.box 0 rfl).2.1
      obtain ⟨v0, v1, v2, v3, v4, v5, v6, v7, hv8⟩ := eight hI.fine.regs8
      have e8 : mbox bx S.1.regs (iMv bm) = ebox bx #[.bool v0.ref, .int .i64 v0.n, .bool v1.ref, .int .i64 v1.n, .bool v2.ref, .int .i64 v2.n, .bool v3.ref, .int .i64 v3.n, .bool v4.ref, .int .i64 v4.n, .bool v5.ref, .int .i64 v5.n, .bool v6.ref, .int .i64 v6.n, .bool v7.ref, .int .i64 v7.n, iMv bm] 87 := by unfold mbox mcells; rw [hv8]; rfl
      have hMm := hMe
      rw [e8] at hMm
      have k0 := hMm.cell 0 rfl 0
      have k1 := hMm.cell 0 rfl 1
      have k2 := hMm.cell 0 rfl 2
      have k3 := hMm.cell 0 rfl 3
      have k4 := hMm.cell 0 rfl 4
      have k5 := hMm.cell 0 rfl 5
      have k6 := hMm.cell 0 rfl 6
      have k7 := hMm.cell 0 rfl 7
      have k8 := hMm.cell 0 rfl 8
      have k9 := hMm.cell 0 rfl 9
      have k10 := hMm.cell 0 rfl 10
      have k11 := hMm.cell 0 rfl 11
      have k12 := hMm.cell 0 rfl 12
      have k13 := hMm.cell 0 rfl 13
      have k14 := hMm.cell 0 rfl 14
      have k15 := hMm.cell 0 rfl 15
      have hGr := ograph_any w.heap.size w wr.drew _ 2 3 _ cs2 S.1.regs hMe.drew (emb_oat _) (by rw [← conts_len, hc2]; exact hl2) (by rw [hc2]; exact hI.fine)
      have hrv : regsV S.1.regs = .agg #[.bool v0.ref, .int .i64 v0.n, .bool v1.ref, .int .i64 v1.n, .bool v2.ref, .int .i64 v2.n, .bool v3.ref, .int .i64 v3.n, .bool v4.ref, .int .i64 v4.n, .bool v5.ref, .int .i64 v5.n, .bool v6.ref, .int .i64 v6.n, .bool v7.ref, .int .i64 v7.n] := by rw [hv8]; rfl
      rw [hrv] at hGr
      have HGr := Lib.hid hGr
      have hMu := Mem.untuck hM
      obtain ⟨ao9, no9, co9, rfl⟩ := hMu.isSlice 0 rfl
      have Hc2 := Lib.hid hc2
      have HS := Lib.hid hS
      have HMu := Lib.hid hMu
      clear hM hMe hMm hGr hrv hMu hc2 hS hIs e8 hv8 hI
      have HSS : Hid (∀ W', KeepsB bm bx wr W' → W'.cell? ⟨bm, 0, none⟩ = some (.slice a2 cs2.length cp2) ∧ W'.cell? ⟨bx, 0, none⟩ = some (.bool v0.ref) ∧ W'.cell? ⟨bx, 1, none⟩ = some (.int .i64 v0.n) ∧ W'.cell? ⟨bx, 2, none⟩ = some (.bool v1.ref) ∧ W'.cell? ⟨bx, 3, none⟩ = some (.int .i64 v1.n) ∧ W'.cell? ⟨bx, 4, none⟩ = some (.bool v2.ref) ∧ W'.cell? ⟨bx, 5, none⟩ = some (.int .i64 v2.n) ∧ W'.cell? ⟨bx, 6, none⟩ = some (.bool v3.ref) ∧ W'.cell? ⟨bx, 7, none⟩ = some (.int .i64 v3.n) ∧ W'.cell? ⟨bx, 8, none⟩ = some (.bool v4.ref) ∧ W'.cell? ⟨bx, 9, none⟩ = some (.int .i64 v4.n) ∧ W'.cell? ⟨bx, 10, none⟩ = some (.bool v5.ref) ∧ W'.cell? ⟨bx, 11, none⟩ = some (.int .i64 v5.n) ∧ W'.cell? ⟨bx, 12, none⟩ = some (.bool v6.ref) ∧ W'.cell? ⟨bx, 13, none⟩ = some (.int .i64 v6.n) ∧ W'.cell? ⟨bx, 14, none⟩ = some (.bool v7.ref) ∧ W'.cell? ⟨bx, 15, none⟩ = some (.int .i64 v7.n)) := Lib.hid (fun W' hb => ⟨(hb.1 0).trans m0, (hb.2 0).trans k0, (hb.2 1).trans k1, (hb.2 2).trans k2, (hb.2 3).trans k3, (hb.2 4).trans k4, (hb.2 5).trans k5, (hb.2 6).trans k6, (hb.2 7).trans k7, (hb.2 8).trans k8, (hb.2 9).trans k9, (hb.2 10).trans k10, (hb.2 11).trans k11, (hb.2 12).trans k12, (hb.2 13).trans k13, (hb.2 14).trans k14, (hb.2 15).trans k15⟩)
      have hmem : ebox (w.heap.size + 1) #[.slice none 0 0, .slice none 0 0] 25 ∈ (rowT 89 3 cellsO (.slice ao9 no9 co9) S.2 :: mbox bx S.1.regs (iMv bm) :: (embL bm #[.slice a2 cs2.length cp2] 77 (.slice a2 cs2.length cp2) cs2 [] ++ [ebox (w.heap.size + 1) #[.slice none 0 0, .slice none 0 0] 25, ebox w.heap.size #[.slice ao g.objs.length co, .slice ar g.roots.length cr] 25])) :=
        List.mem_cons_of_mem _ (List.mem_cons_of_mem _ (List.mem_append_right _ (List.mem_cons_self ..)))
      have Hmem := Lib.hid hmem
      have hp1 := List.pairwise_cons.1 (List.pairwise_cons.1 HMu.out.apart).2
      have hp2 := (List.pairwise_append.1 hp1.2).2.2
      have Hne1 : Hid (bm ≠ w.heap.size + 1) := Lib.hid (fun e => hp2 _ (List.mem_cons_self ..) _ (List.mem_cons_self ..) bm rfl (by rw [e]; rfl))
      have Hne2 : Hid (bx ≠ w.heap.size + 1) := Lib.hid (fun e => hp1.1 (ebox (w.heap.size + 1) #[.slice none 0 0, .slice none 0 0] 25) (List.mem_append_right _ (List.mem_cons_self ..)) bx rfl (by rw [e]; rfl))
      clear hp1 hp2
      clear hmem
      go_wp2_with fail
      go_region_held3 (fun X => X.cell? ⟨bm, 0, none⟩ = some (.slice a2 cs2.length cp2) ∧ X.cell? ⟨bx, 0, none⟩ = some (.bool v0.ref) ∧ X.cell? ⟨bx, 1, none⟩ = some (.int .i64 v0.n) ∧ X.cell? ⟨bx, 2, none⟩ = some (.bool v1.ref) ∧ X.cell? ⟨bx, 3, none⟩ = some (.int .i64 v1.n) ∧ X.cell? ⟨bx, 4, none⟩ = some (.bool v2.ref) ∧ X.cell? ⟨bx, 5, none⟩ = some (.int .i64 v2.n) ∧ X.cell? ⟨bx, 6, none⟩ = some (.bool v3.ref) ∧ X.cell? ⟨bx, 7, none⟩ = some (.int .i64 v3.n) ∧ X.cell? ⟨bx, 8, none⟩ = some (.bool v4.ref) ∧ X.cell? ⟨bx, 9, none⟩ = some (.int .i64 v4.n) ∧ X.cell? ⟨bx, 10, none⟩ = some (.bool v5.ref) ∧ X.cell? ⟨bx, 11, none⟩ = some (.int .i64 v5.n) ∧ X.cell? ⟨bx, 12, none⟩ = some (.bool v6.ref) ∧ X.cell? ⟨bx, 13, none⟩ = some (.int .i64 v6.n) ∧ X.cell? ⟨bx, 14, none⟩ = some (.bool v7.ref) ∧ X.cell? ⟨bx, 15, none⟩ = some (.int .i64 v7.n))
        (first | exact HSS.out _ ((KeepsB.below mb hMbx hB4).set Hne1.out Hne2.out |>.set Hne1.out Hne2.out) | exact HSS.out _ (KeepsB.below mb hMbx (by repeat (first | exact Below.refl _ _ | assumption | refine Below.setCell ?_ (by first | exact Nat.le_refl _ | (simp; done) | (simp; omega) | (simp at *; omega)) _ | refine Below.alloc ?_ (by first | exact Nat.le_refl _ | (simp; done) | (simp; omega) | (simp at *; omega)) _ | refine Below.drew ?_))) | fail)
        (first | (go_at_call 40
                  refine HGr.out.mono ?_
                  rintro e w4 ⟨v', c, rfl, hC, hGf, hb4⟩
                  have hB4 : Below wr.heap.size wr w4 := ((Below.refl _ wr).drew).trans hb4
                  have hM4 := HMu.out.call hB4
                  have u0 := hM4.boxCell Hmem.out 0 rfl
                  have u1 := hM4.boxCell Hmem.out 1 rfl
                  have u2 := (hM4.boxFree Hmem.out 0).1
                  have u3 := (hM4.boxFree Hmem.out 1).1
                  have hg4 := hGf.here
                  obtain ⟨vo3, vr3, rfl, ho3, hr3⟩ := hg4
                  obtain ⟨ao3, co3, rfl, _⟩ := ho3.slice
                  obtain ⟨ar3, cr3, rfl, _⟩ := hr3.slice))
      all_goals
        have hM5 := (hM4.drop (L' := [rowT 89 3 cellsO (.slice ao9 no9 co9) S.2, ebox (w.heap.size + 1) #[.slice none 0 0, .slice none 0 0] 25]) (List.Sublist.cons_cons _ (List.Sublist.cons _ ((List.Sublist.cons_cons _ (List.nil_sublist _)).trans (List.sublist_append_right _ [ebox (w.heap.size + 1) #[.slice none 0 0, .slice none 0 0] 25, ebox w.heap.size #[.slice ao g.objs.length co, .slice ar g.roots.length cr] 25])))))
        have hM6 := (hM5.setBox 1 rfl 0 (.slice ao3 c.objs.length co3)).setBox 1 rfl 1 (.slice ar3 c.roots.length cr3)
        obtain ⟨W6, hW6⟩ : ∃ W6, W6 = (w4.setCell ⟨w.heap.size + 1, 0, none⟩ (.slice ao3 c.objs.length co3)).setCell ⟨w.heap.size + 1, 1, none⟩ (.slice ar3 c.roots.length cr3) := ⟨_, rfl⟩
        rw [← hW6] at hM6 ⊢
        have z0 := hM6.cell 1 rfl 0
        have z1 := hM6.cell 1 rfl 1
        have hlast : Mem w.heap.size w W6 [rowT 89 3 cellsO (.slice ao9 no9 co9) S.2] := hM6.drop (by simp)
        have hGf6 : Graft w.heap.size W6 (.agg #[.slice ao3 c.objs.length co3, .slice ar3 c.roots.length cr3]) c := by
          have hsz : w.heap.size + 1 < wr.heap.size := (HMu.out.boxFree Hmem.out 0).2
          refine hGf.step (show w.heap.size ≤ wr.heap.size by omega) (by rw [hW6]; simp) ?_
          intro b h1 h2
          have h1' : wr.heap.size ≤ b := h1
          rw [hW6, heap_setCell_other _ _ _ _ (by simp only; omega), heap_setCell_other _ _ _ _ (by simp only; omega)]
        have HL := Lib.hid hlast
        have HG6 := Lib.hid hGf6
        have HC := Lib.hid hC
        clear hM4 hM5 hM6 hlast hGf6 hGf hC hW6 u0 u1 u2 u3 hb4 hB4 ho3 hr3
        go_wp2
        refine bodyPost_ret (v := .tuple #[.slice ao9 no9 co9, .agg #[.slice ao3 c.objs.length co3, .slice ar3 c.roots.length cr3], .int .i64 0]) (by simp [results, Try.results15, go_sem, z0, z1]) rfl ?_
        refine ⟨_, _, c, rfl, ?_, HG6.out, ?_⟩
        · rw [HS.out, ← Hc2.out]; exact HC.out
        · rw [HS.out]; exact HL.out
end Go.Proofs.Ytmmcjjklmcfegaa
