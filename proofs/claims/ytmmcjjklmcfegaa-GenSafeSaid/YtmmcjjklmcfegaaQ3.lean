/- (heap.Objects).Graph, walked: the graph of what can be come to, numbered as found. -/
import Derived.Test.YtmmcjjklmcfegaaQ2
import Derived.Test.YtmmcjjklmcfegaaBase3
import Derived.Test.YtmmcjjklmcfegaaBase4
import Derived.Deep.RegionLaw
namespace Go.Proofs.Ytmmcjjklmcfegaa
open Go.RowKit Go.Shelf

/-- The graph of a memory: what is gone has no fields. -/
def gOf (regs : List V) (os : Os) : G := ⟨os.map (·.getD []), regs⟩
def valO : Option Oc → Value
  | none => .slice none 0 0
  | some o => o.v
def lO : Option Oc → List V
  | none => []
  | some o => o.l
theorem gOf_objs (regs : List V) (cs : List (Option Oc)) : (gOf regs (conts cs)).objs = cs.map lO := by
  unfold gOf conts
  simp only [List.map_map]
  apply List.map_congr_left
  intro c _
  cases c <;> rfl
theorem Fine.fits {regs : List V} {os : Os} (h : Fine regs os) (hn : os.length ≤ 1000) : Fits (gOf regs os) := by
  have hobj : ∀ o ∈ (gOf regs os).objs, o = [] ∨ ∃ i : Nat, os[i]? = some (some o) := by
    intro o ho
    obtain ⟨c, hc, rfl⟩ := List.mem_map.1 ho
    cases c with
    | none => exact .inl rfl
    | some l =>
      obtain ⟨i, hi⟩ := List.getElem?_of_mem hc
      exact .inr ⟨i, hi⟩
  have hall : ∀ v ∈ allV (gOf regs os), (v.ref = true → 0 ≤ v.n ∧ v.n < (os.length : Int)) ∧ i64ok v.n := by
    intro v hv
    have key : ∀ v : V, (v.ref = true → 0 ≤ v.n ∧ v.n < (os.length : Int)) → (v.ref = false → -4611686018427387904 ≤ v.n ∧ v.n ≤ 4611686018427387903) → (v.ref = true → 0 ≤ v.n ∧ v.n < (os.length : Int)) ∧ i64ok v.n := by
      intro v h1 h2
      refine ⟨h1, ?_⟩
      cases hr : v.ref with
      | true => have := h1 hr; exact ⟨by omega, by omega⟩
      | false => have := h2 hr; exact ⟨by omega, by omega⟩
    rcases List.mem_append.1 hv with hv | hv
    · have h1 := h.regs v hv
      exact key v (fun hr => by have := (h1.1 hr).lt; have := (h1.1 hr).1; omega) h1.2
    · obtain ⟨o, ho, hvo⟩ := List.mem_flatten.1 hv
      rcases hobj o ho with rfl | ⟨i, hi⟩
      · cases hvo
      · exact key v (h.rng i o hi v hvo) (h.num i o hi v hvo)
  refine ⟨?_, ?_, ?_, ?_, fun v hv => (hall v hv).2⟩
  · simpa [gOf] using hn
  · have := h.regs8
    show regs.length ≤ 1000
    omega
  · intro o ho
    rcases hobj o ho with rfl | ⟨i, hi⟩
    · simp
    · have := h.flen i o hi; omega
  · intro v hv hr
    have := (hall v hv).1 hr
    simpa [gOf] using this
theorem isVals_box {B : Nat} {w0 w : World} {L : List Ent} (h : Mem B w0 w L) (k : Nat) {b : Nat} {l : List V} {t : TypeId} (hk : L[k]? = some (ebox b (l.flatMap cellsV).toArray t)) (n : Nat) (hn : l.length = n) (hl : l.length ≤ 1000) (hi : ∀ x ∈ l, i64ok x.n) :
    IsVals w (.slice (some ⟨b, 0, none⟩) n n) l := by
  subst hn
  refine ⟨_, l.length, rfl, by omega, fun j x hx => ⟨b, 0, rfl, (h.box k hk).2.1, ?_, ?_, hi x (List.mem_of_getElem? hx)⟩⟩
  · rw [h.cell k hk]
    obtain ⟨h1, _⟩ := getElem_cellsV l j x hx
    rw [List.getElem?_toArray, Nat.zero_add]; exact h1
  · rw [h.cell k hk]
    obtain ⟨_, h1⟩ := getElem_cellsV l j x hx
    rw [List.getElem?_toArray, Nat.zero_add]; exact h1
def GraphSays (regs : List V) (os : Os) (w w' : World) (e : Ending) : Prop := ∃ v' c, e = .returned v' ∧ CanonS (gOf regs os) c ∧ Graft w.heap.size w' v' c ∧ Below w.heap.size w w'
set_option maxRecDepth 100000 in
set_option maxHeartbeats 4000000 in
theorem ograph_any (B : Nat) (w0 w : World) (L : List Ent) (kp k0 : Nat) (vo : Value) (cs : List (Option Oc)) (regs : List V) (hM : Mem B w0 w L) (O : OAt L kp k0 vo cs) (hn : cs.length ≤ 1000) (hF : Fine regs (conts cs)) :
    Calls Try.prog 40 #[vo, regsV regs] w fun e w' => GraphSays regs (conts cs) w w' e := by
  obtain ⟨a, cap, rfl⟩ := hM.ptrSlice O
  obtain ⟨v0, v1, v2, v3, v4, v5, v6, v7, hv8⟩ := eight hF.regs8
  have hFit := hF.fits (by rw [conts_len]; exact hn)
  have HFit := Lib.hid hFit
  have hrv : regsV regs = .agg #[.bool v0.ref, .int .i64 v0.n, .bool v1.ref, .int .i64 v1.n, .bool v2.ref, .int .i64 v2.n, .bool v3.ref, .int .i64 v3.n, .bool v4.ref, .int .i64 v4.n, .bool v5.ref, .int .i64 v5.n, .bool v6.ref, .int .i64 v6.n, .bool v7.ref, .int .i64 v7.n] := by rw [hv8]; rfl
  rw [hrv]
  have HM := Lib.hid hM
  have HO := Lib.hid O
  have HF := Lib.hid hF
  have Hv8 := Lib.hid hv8
  have hM0 := (((Mem.start w).alloc #[.bool v0.ref, .int .i64 v0.n, .bool v1.ref, .int .i64 v1.n, .bool v2.ref, .int .i64 v2.n, .bool v3.ref, .int .i64 v3.n, .bool v4.ref, .int .i64 v4.n, .bool v5.ref, .int .i64 v5.n, .bool v6.ref, .int .i64 v6.n, .bool v7.ref, .int .i64 v7.n] 82).alloc #[.slice none 0 0, .slice none 0 0] 25).alloc #[.slice none 0 0, .slice (some ⟨w.heap.size, 0, none⟩) 8 8] 25
  simp only [World.size_alloc] at hM0
  have hM1 := hM0.nil 94 1
  have HM1 := Lib.hid hM1
  clear hM O hF hv8 hM0 hM1 hFit hrv
  go_enter Try.func40, Try.ntmps40
  go_wp2_with fail
  go_loopw [7, 14] (fun _ s14 wr => ∃ (k : Nat) (vO : Value), k ≤ cs.length ∧ s14 = .int .i64 k ∧ Mem w.heap.size w wr [erow 94 1 vO k ((cs.take k).map valO), ebox (w.heap.size + 1 + 1) #[vO, .slice (some ⟨w.heap.size, 0, none⟩) 8 8] 25, ebox (w.heap.size + 1) #[.slice none 0 0, .slice none 0 0] 25, ebox w.heap.size #[.bool v0.ref, .int .i64 v0.n, .bool v1.ref, .int .i64 v1.n, .bool v2.ref, .int .i64 v2.n, .bool v3.ref, .int .i64 v3.n, .bool v4.ref, .int .i64 v4.n, .bool v5.ref, .int .i64 v5.n, .bool v6.ref, .int .i64 v6.n, .bool v7.ref, .int .i64 v7.n] 82]) (fun _ i _ => cs.length - (intOf i).toNat)
  case atStart => exact ⟨0, _, Nat.zero_le _, rfl, HM1.out⟩
  case round =>
    clear HM1
    obtain ⟨k, vO, hk, rfl, hMr⟩ := hrel
    by_cases hlt : k < cs.length
    · obtain ⟨c, hc⟩ := get_some _ _ hlt
      have hMw := HM.out.call hMr.below
      obtain ⟨g, c2, hv, p0, _, pb⟩ := hMw.ptrAt HO.out hc
      cases hv
      have Ht := Lib.hid (take_succ_some _ _ _ hc)
      have hk1000 : k ≤ 1000000 := by omega
      obtain ⟨aO, nO, cO, rfl⟩ := hMr.isSlice 0 rfl
      cases c with
      | none =>
        unfold ptrO at p0
        simp only at p0
        have hMa := hMr.alloc #[.slice none 0 0] 94
        have a0 := hMa.cell 0 rfl 0
        have a1 := (hMa.box 0 rfl).2.1
        have a2 := hMa.cell 2 rfl 0
        have a3 := (hMa.box 2 rfl).2.1
        obtain ⟨W, hW⟩ : ∃ W, wr.alloc (.cells #[.slice none 0 0] 94) = W := ⟨_, rfl⟩
        rw [hW] at hMa a0 a1 a2 a3
        have HW := Lib.hid hW
        have HMa := Lib.hid hMa
        clear hc hMw hMr hMa hW
        go_wp2_with fail
        rw [HW.out]
        go_region_law (first
          | (refine Mem.step_app1 elemObjs rfl (.tmp 23) (.tmp 27) rfl HMa.out.drew 1 rfl rfl 1 #[.slice none 0 0] _ _ rfl (by simp) rfl rfl (by decide) hk1000 ?_
             intro ad cp w6 hM6 hs6 hk6
             have u0 := hM6.cell 2 rfl 0
             have u1 := hM6.free 2 rfl 0))
        all_goals
          have hM8 := hM6.setBox 2 rfl 0 (.slice ad (k + 1) cp)
          have HM8 := Lib.hid (hM8.drop (List.sublist_cons_self _ _))
          clear hM6 hM8 u0 u1
          go_wp2
          go_roundw
          case rel => exact ⟨k + 1, .slice ad (k + 1) cp, by omega, by go_num, HM8.out.cast (by rw [Ht.out, List.map_append]; rfl)⟩
          case measure => simp [intOf]; omega
      | some o =>
        unfold ptrO at p0
        simp only at p0
        obtain ⟨q0, qb, av, cv, hvv⟩ := hMw.objAt HO.out hc
        rw [hvv] at q0
        have hval : valO (some o) = .slice av o.l.length cv := hvv
        have Hval := Lib.hid hval
        have a2 := hMr.cell 1 rfl 0
        have a3 := (hMr.box 1 rfl).2.1
        have HMa := Lib.hid hMr
        clear hc hMw hMr hvv hval
        go_wp2_with fail
        go_region_law (first
          | (refine Mem.step_app1 elemObjs rfl (.tmp 23) (.tmp 27) rfl HMa.out.drew 0 rfl rfl 1 #[.slice av o.l.length cv] _ _ rfl (by simp) rfl rfl (by decide) hk1000 ?_
             intro ad cp w6 hM6 hs6 hk6
             have u0 := hM6.cell 1 rfl 0
             have u1 := hM6.free 1 rfl 0))
        all_goals
          have hM8 := hM6.setBox 1 rfl 0 (.slice ad (k + 1) cp)
          have HM8 := Lib.hid (hM8.drop (List.Sublist.refl _))
          clear hM6 hM8 u0 u1
          go_wp2
          go_roundw
          case rel => exact ⟨k + 1, .slice ad (k + 1) cp, by omega, by go_num, HM8.out.cast (by rw [Ht.out, List.map_append, List.map_cons, List.map_nil, Hval.out]; rfl)⟩
          case measure => simp [intOf]; omega
    · obtain rfl : k = cs.length := by omega
      rw [List.take_length] at hMr
      obtain ⟨aO, nO, cO, rfl⟩ := hMr.isSlice 0 rfl
      have hMw := HM.out.call hMr.below
      have hg : IsGraph wr (.agg #[.slice aO nO cO, .slice (some ⟨w.heap.size, 0, none⟩) 8 8]) (gOf regs (conts cs)) := by
        refine ⟨_, _, rfl, ?_, ?_⟩
        · rw [gOf_objs]
          have h1 := isObjs_of_own (rows := cs.map fun c => (valO c, lO c)) ((by have := hMr.row 0 rfl; rw [List.map_map]; exact this) : wr.ownsRow w.heap.size 94 1 (.slice aO nO cO) cs.length ((cs.map fun c => (valO c, lO c)).map (·.1))) (by rw [List.length_map]; omega) ?_
          · rw [List.map_map] at h1; exact h1
          · intro r hr
            obtain ⟨c, hc, rfl⟩ := List.mem_map.1 hr
            obtain ⟨i, hi⟩ := List.getElem?_of_mem hc
            cases c with
            | none => exact ⟨none, 0, rfl, by simp [lO], by simp [lO]⟩
            | some o =>
              refine hMw.isVals _ (HO.out.r i _ hi) ?_ ?_
              · have := HF.out.flen i o.l (conts_at hi)
                show o.l.length ≤ 1000000
                omega
              · intro x hx
                refine HFit.out.vals x (List.mem_append_right _ (List.mem_flatten.2 ⟨o.l, ?_, hx⟩))
                rw [gOf_objs]
                exact List.mem_map.2 ⟨some o, hc, rfl⟩
        · have h8 := HF.out.regs8
          refine isVals_box hMr 3 (l := regs) (t := 82) ?_ 8 h8 (by omega) (fun x hx => HFit.out.vals x (List.mem_append_left _ hx))
          rw [Hv8.out]; rfl
      have a2 := hMr.cell 1 rfl 0
      have a3 := hMr.cell 1 rfl 1
      have Hg := Lib.hid hg
      have HMr := Lib.hid hMr
      clear hMw hg hMr
      go_wp2_with fail
      refine (found_fits _ HFit.out _ wr Hg.out).mono ?_
      rintro e w2 ⟨vl, vd, l, dist, rfl, hF2, hM2⟩
      have hfar := hF2.farR HFit.out.rng
      have hM3 := HMr.out.callMem hM2
      have hll : l.length ≤ (gOf regs (conts cs)).objs.length := hfar.inv.length_le
      have hol : (gOf regs (conts cs)).objs.length ≤ 1000 := HFit.out.objs
      have hI : IsInts w2 vl l := isInts_of_own (hM3.ownI 0 rfl) (by omega) (fun x hx => by have := hfar.inv.rng x hx; exact ⟨by omega, by omega⟩)
      have q0 := hM3.cell 3 rfl 0
      have q1 := hM3.cell 3 rfl 1
      have HF2 := Lib.hid hF2
      have Hrn := Lib.hid (renumber_fits _ HFit.out _ _ l w2 (Hg.out.later hM2.below) hI (by omega) hfar.inv.rng)
      have HM3 := Lib.hid hM3
      clear hF2 hM2 hfar hM3 hI hll hol a2 a3
      go_wp2_with fail
      refine Hrn.out.mono ?_
      rintro e w3 ⟨v', rfl, hgr, hb3⟩
      have hg3 := hgr.here
      obtain ⟨c, hc⟩ : ∃ c, c = renum (gOf regs (conts cs)) l := ⟨_, rfl⟩
      rw [← hc] at hg3 hgr
      have HGr := Lib.hid hgr
      have Hc := Lib.hid hc
      have hM4 := HM3.out.call hb3
      obtain ⟨vo3, vr3, rfl, ho3, hr3⟩ := hg3
      obtain ⟨ao3, co3, rfl, _⟩ := ho3.slice
      obtain ⟨ar3, cr3, rfl, _⟩ := hr3.slice
      have s2 := hM4.cell 4 rfl 0
      have s3 := hM4.cell 4 rfl 1
      have s4 := hM4.free 4 rfl 0
      have s5 := hM4.free 4 rfl 1
      have hM6 := (hM4.setBox 4 rfl 0 (.slice ao3 c.objs.length co3)).setBox 4 rfl 1 (.slice ar3 c.roots.length cr3)
      have HM6 := Lib.hid hM6
      have hsz2 : w.heap.size + 1 < w2.heap.size := (HM3.out.box 4 rfl).2.1
      clear hM4 hM6 hc hgr ho3 hr3 q0 q1 Hrn
      go_wp2
      obtain ⟨W6, hW6⟩ : ∃ W6, W6 = (w3.setCell ⟨w.heap.size + 1, 0, none⟩ (.slice ao3 c.objs.length co3)).setCell ⟨w.heap.size + 1, 1, none⟩ (.slice ar3 c.roots.length cr3) := ⟨_, rfl⟩
      have hM7 := HM6.out
      rw [← hW6] at hM7 ⊢
      have r0 : W6.cell? ⟨w.heap.size + 1, 0, none⟩ = some (.slice ao3 c.objs.length co3) := by have := hM7.cell 4 rfl 0; simpa using this
      have r1 : W6.cell? ⟨w.heap.size + 1, 1, none⟩ = some (.slice ar3 c.roots.length cr3) := by have := hM7.cell 4 rfl 1; simpa using this
      refine bodyPost_ret (v := .agg #[.slice ao3 c.objs.length co3, .slice ar3 c.roots.length cr3]) (by simp [results, Try.results40, go_sem, r0, r1]) rfl ⟨_, c, rfl, ⟨l, dist, HF2.out, Hc.out⟩, ?_, hM7.below⟩
      refine HGr.out.step (by omega) (by rw [hW6]; simp) ?_
      intro b h1 h2
      rw [hW6, heap_setCell_other _ _ _ _ (by simp only; omega), heap_setCell_other _ _ _ _ (by simp only; omega)]
end Go.Proofs.Ytmmcjjklmcfegaa
