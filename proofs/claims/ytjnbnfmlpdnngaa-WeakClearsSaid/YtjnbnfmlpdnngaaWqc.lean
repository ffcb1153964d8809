/- weak.Clear, walked. -/
import Derived.Test.YtjnbnfmlpdnngaaWqa
import Derived.Test.YtjnbnfmlpdnngaaWqb
import Derived.Test.YtjnbnfmlpdnngaaWqv
import Derived.Deep.RegionHeld3
import Derived.Deep.DeepCutAuto
namespace Go.Proofs.Ytjnbnfmlpdnngaa
open Go.RowKit Go.Shelf

/-- An object's fields when j of them have been looked at. -/
def partL (kd : Int) (K : List Bool) (l : List V) (j : Nat) : List V := (wipeL kd K l).take j ++ l.drop j
theorem partL_len (kd : Int) (K : List Bool) (l : List V) (j : Nat) : (partL kd K l j).length = l.length := by
  unfold partL
  rw [List.length_append, List.length_take, List.length_drop, wipeL_len]; omega
theorem partL_zero (kd : Int) (K : List Bool) (l : List V) : partL kd K l 0 = l := by simp [partL]
theorem partL_all (kd : Int) (K : List Bool) (l : List V) : partL kd K l l.length = wipeL kd K l := by
  unfold partL
  rw [List.take_of_length_le (by rw [wipeL_len]; exact Nat.le_refl _), List.drop_length, List.append_nil]
theorem partL_cut {kd : Int} {K : List Bool} {l : List V} {j : Nat} {v : V} (h : l[j]? = some v) : partL kd K l j = (wipeL kd K l).take j ++ v :: l.drop (j + 1) ∧ ((wipeL kd K l).take j).length = j := by
  obtain ⟨hj, he⟩ := List.getElem?_eq_some_iff.1 h
  refine ⟨?_, by rw [List.length_take, wipeL_len]; omega⟩
  unfold partL
  rw [List.drop_eq_getElem_cons hj, he]
theorem partL_get {kd : Int} {K : List Bool} {l : List V} {j : Nat} {v : V} (h : l[j]? = some v) : (partL kd K l j)[j]? = some v := by
  obtain ⟨h1, h2⟩ := partL_cut (kd := kd) (K := K) h
  rw [h1, List.getElem?_append_right (by omega), h2, Nat.sub_self]; rfl
theorem partL_step {kd : Int} {K : List Bool} {l : List V} {j : Nat} {v : V} (h : l[j]? = some v) : (partL kd K l j).set j (wipe1 kd K (deadL kd K l) v) = partL kd K l (j + 1) := by
  obtain ⟨h1, h2⟩ := partL_cut (kd := kd) (K := K) h
  have h3 : (wipeL kd K l)[j]? = some (wipe1 kd K (deadL kd K l) v) := by unfold wipeL; rw [List.getElem?_map, h]; rfl
  rw [h1, List.set_append_right _ _ (by omega), h2, Nat.sub_self, List.set_cons_zero]
  unfold partL
  rw [take_succ_some _ _ _ h3, List.append_assoc]; rfl
theorem partL_same {kd : Int} {K : List Bool} {l : List V} {j : Nat} {v : V} (h : l[j]? = some v) (hw : wipe1 kd K (deadL kd K l) v = v) : partL kd K l (j + 1) = partL kd K l j := by
  rw [← partL_step h, hw]
  obtain ⟨h1, h2⟩ := partL_cut (kd := kd) (K := K) h
  rw [h1, List.set_append_right _ _ (by omega), h2, Nat.sub_self, List.set_cons_zero]
theorem deadL_none {kd : Int} {K : List Bool} {l : List V} (h : ¬ 0 < l.length) : deadL kd K l = false := by
  obtain rfl : l = [] := List.eq_nil_of_length_eq_zero (by omega)
  rfl
theorem deadL_some {kd : Int} {K : List Bool} {l : List V} {f : V} (h : l[0]? = some f) : deadL kd K l = (decide (kd = 2) && !aliveB K f) := by
  cases l with
  | nil => simp at h
  | cons x l => simp at h; subst h; rfl
def wantB (kd : Int) (K : List Bool) (dd : Bool) (v : V) : Bool := dd || (decide (kd = 1) && !aliveB K v)
theorem wipe1_want {kd : Int} {K : List Bool} {dd : Bool} {v : V} : wipe1 kd K dd v = if wantB kd K dd v = true then ⟨false, 0⟩ else v := by
  unfold wipe1 wantB
  congr 1
  cases dd <;> simp
theorem RoomG.later {w W : World} {v : Value} {g : G} (hg : IsGraph w v g) (h : RoomG w v g) (hb : Below w.heap.size w W) : RoomG W v g := by
  obtain ⟨vo, vr, rfl, ho, hr⟩ := hg
  obtain ⟨vo', vr', hv, hro⟩ := h
  obtain ⟨rfl, rfl⟩ : vo = vo' ∧ vr = vr' := by simpa using hv
  refine ⟨_, _, rfl, ?_⟩
  intro k x b off n cap u hx hv hc
  obtain ⟨b', off', cap', u', hv', hb', _, _, _⟩ := ho.at hb hx
  have hbb : b = b' := by rw [hv] at hv'; cases hv'; rfl
  subst hbb
  exact hro k x b off n cap u hx hv ((hb.cell (p := ⟨_, _, none⟩) hb').symm.trans hc)
theorem keeper_at {B : Nat} {w0 w : World} {L : List Ent} (h : Mem B w0 w L) (i j : Nat) {Bk gK N : Nat} {vo vr vk : Value} {K : List Bool} (h1 : L[i]? = some (ebox Bk #[vo, vr, vk, .slice (some ⟨gK, 0, none⟩) N N] 149)) (h2 : L[j]? = some (rowB (.slice (some ⟨gK, 0, none⟩) N N) K)) (hl : K.length ≤ 1000) :
    IsKeeper w Bk vo vr vk (.slice (some ⟨gK, 0, none⟩) N N) K := by
  refine ⟨(h.box i h1).2.1, ?_, ?_, ?_, ?_, isBools_own h j h2 (by omega)⟩
  · have := h.cell i h1 0; simpa using this
  · have := h.cell i h1 1; simpa using this
  · have := h.cell i h1 2; simpa using this
  · have := h.cell i h1 3; simpa using this
def ClearSays (g : G) (ks : List Int) (w w' : World) (e : Ending) : Prop := ∃ K v', e = .returned (.tuple #[v', .int .i64 0]) ∧ WeakS g ks K ∧ GraftR w.heap.size w' v' (renum (wipeG g ks K) (listK K)) ∧ Below w.heap.size w w'
/-- What Clear owns in its loop. -/
def clrE (b8 Bk gK N : Nat) (vO ar vo vr vk : Value) (k : Nat) (K : List Bool) (x : Nat) (c1 c2 : Array Value) (rows : Rws) : List Ent :=
  [ebox b8 #[vO, ar] 25, erow 61 1 vO k (rows.map (·.1)), ebox Bk #[vo, vr, vk, .slice (some ⟨gK, 0, none⟩) N N] 149, rowB (.slice (some ⟨gK, 0, none⟩) N N) K, ebox (x + 1) c1 25, ebox x c2 25] ++ rowsE rows
set_option maxRecDepth 100000 in
set_option maxHeartbeats 8000000 in
theorem clear_yes (g : G) (v u : Value) (ks : List Int) (w : World) (hg : IsGraph w v g) (hroom : RoomG w v g) (hu : IsInts w u ks) (hk : KindOf g ks) :
    Calls Try.prog 25 #[v, u] w fun e w' => ClearSays g ks w w' e := by
  have Hg := Lib.hid hg
  have Hu := Lib.hid hu
  have hn := hk.1.objs
  have hro := hroom
  obtain ⟨vo0, vr0, rfl, ho, hr⟩ := hg
  obtain ⟨ao, co, rfl, hlo⟩ := ho.slice
  obtain ⟨ar, cr, rfl, hlr⟩ := hr.slice
  obtain ⟨au, cu, rfl, hlu⟩ := hu.slice
  have hM0 := ((Mem.start w).alloc #[.slice ao g.objs.length co, .slice ar g.roots.length cr] 25).alloc #[.slice none 0 0, .slice none 0 0] 25
  simp only [World.size_alloc] at hM0
  have Ho := Lib.hid (open_yes g hk.1 _ _ ks _ (Hg.out.later hM0.below) (RoomG.later Hg.out hro hM0.below) (hu.later hM0.below) hk.2.2 hk.2.1)
  have HM0 := Lib.hid hM0
  have HO := Lib.hid ho
  have HR := Lib.hid hr
  have Hkl := Lib.hid hk.2.1
  have Hk := Lib.hid hk
  have e1 : (ks.length : Int) = (g.objs.length : Int) := by rw [hk.2.1]
  clear ho hr hroom hro hu hk hM0
  go_enter Try.func25, Try.ntmps25
  go_wp2_with fail
  refine Ho.out.mono ?_
  rintro e w1 ⟨Bk, gK, vo, vr, vk, K, rfl, hW, hMo⟩
  have hM1 := HM0.out.callMem hMo
  have hKl := hW.inv.len
  have hM2 := hM1.alloc #[.slice none 0 0, .slice ar g.roots.length cr] 25
  have p0 := hM1.cell 3 rfl 0
  have p1 := hM1.cell 3 rfl 1
  have pb := (hM1.box 3 rfl).2.1
  obtain ⟨W2, hW2⟩ : ∃ W2, w1.alloc (.cells #[.slice none 0 0, .slice ar g.roots.length cr] 25) = W2 := ⟨_, rfl⟩
  obtain ⟨b8, hb8⟩ : ∃ b8, w1.heap.size = b8 := ⟨_, rfl⟩
  rw [hW2, hb8] at hM2
  have hM3 : Mem w.heap.size w W2 (clrE b8 Bk gK g.objs.length (.slice none 0 0) (.slice ar g.roots.length cr) vo vr vk 0 K w.heap.size #[.slice none 0 0, .slice none 0 0] #[.slice ao g.objs.length co, .slice ar g.roots.length cr] []) :=
    (hM2.nil 61 1).pick0 [1, 0, 2, 3, 4, 5] (by decide) rfl
  have q0 := hM3.cell 5 rfl 0
  have qb := (hM3.box 5 rfl).2.1
  have HW := Lib.hid hW
  have HKl := Lib.hid hKl
  have HM3 := Lib.hid hM3
  have HW2 := Lib.hid hW2
  have Hb8 := Lib.hid hb8
  clear hW hKl hM1 hM2 hM3 hMo hW2 hb8 HM0 Ho
  go_upto_region 5 with (fail)
  rw [HW2.out, Hb8.out]
  clear p0 p1 pb
  go_upto_region 6 with (fail)
  go_loopw [9, 10, 11, 12, 13, 14, 31, 59] (fun _ _ _ _ _ _ s31 _ wr => ∃ (k : Nat) (vO : Value) (rows : Rws), k ≤ g.objs.length ∧ s31 = .int .i64 k ∧ rows.map (·.2) = (List.range k).map (fun i : Nat => wipeL (kindAt ks (i : Int)) K (fieldsAt g (i : Int))) ∧
      Mem w.heap.size w wr (clrE b8 Bk gK g.objs.length vO (.slice ar g.roots.length cr) vo vr vk k K w.heap.size #[.slice none 0 0, .slice none 0 0] #[.slice ao g.objs.length co, .slice ar g.roots.length cr] rows)) (fun _ _ _ _ _ _ i _ _ => g.objs.length - (intOf i).toNat)
  case atStart => exact ⟨0, _, [], Nat.zero_le _, rfl, rfl, HM3.out⟩
  case round =>
    clear HM3 q0 qb
    obtain ⟨k, vO, rows, hk, rfl, hrows, hM⟩ := hrel
    obtain ⟨Wk, hWk⟩ : ∃ Wk, Wk = wr := ⟨_, rfl⟩
    subst hWk
    by_cases hlt : k < g.objs.length
    · obtain ⟨ob, hob⟩ := get_some _ _ hlt
      obtain ⟨kd, hkd⟩ := get_some ks k (by rw [Hkl.out]; exact hlt)
      obtain ⟨bo, oo, cap3, uo, hv2, _, hbo, c2, huo⟩ := HO.out.at hM.below hob
      have hao : ao = some ⟨bo, oo, none⟩ := by cases hv2; rfl
      subst hao
      obtain ⟨bk, ok, ck, hv3, _, hbk, c3, _⟩ := Hu.out.at hM.below hkd
      have hau : au = some ⟨bk, ok, none⟩ := by cases hv3; rfl
      subst hau
      obtain ⟨af, cf, rfl, _⟩ := huo.slice
      have hfa : fieldsAt g (k : Int) = ob := by unfold fieldsAt; rw [Int.toNat_natCast, List.getD_eq_getElem?_getD, hob]; rfl
      have hka : kindAt ks (k : Int) = kd := by unfold kindAt; rw [Int.toNat_natCast, List.getD_eq_getElem?_getD, hkd]; rfl
      have hml : ob.length ≤ 4 := by rw [← hfa]; exact fieldsAt_len Hk.out.1 _
      have hvin : ∀ x ∈ ob, x.ref = true → 0 ≤ x.n ∧ x.n < K.length := by
        intro x hx hxr
        rw [← hfa] at hx
        rw [HKl.out]
        exact Hk.out.1.fits.rng x (fields_in g _ x hx) hxr
      obtain ⟨m, hm⟩ : ∃ m, ob.length = m := ⟨_, rfl⟩
      have i1 : (k : Int) < (g.objs.length : Int) := by omega
      have i2 : (k : Int) < (ks.length : Int) := by omega
      have hM3 := hM.alloc #[.slice af ob.length cf] 61
      obtain ⟨W3, hW3⟩ : ∃ W3, Wk.alloc (.cells #[.slice af ob.length cf] 61) = W3 := ⟨_, rfl⟩
      obtain ⟨b10, hb10⟩ : ∃ b10, Wk.heap.size = b10 := ⟨_, rfl⟩
      rw [hW3, hb10] at hM3
      have t0 := hM3.cell 0 rfl 0
      have tb := (hM3.box 0 rfl).2.1
      have Hcl := Lib.hid (cloneV_any W3 (.slice af ob.length cf) ob (huo.later hM3.below) (by omega))
      rw [hm] at Hcl hW3 hM3 t0 hml c2
      have HM3 := Lib.hid hM3
      have HW3 := Lib.hid hW3
      have Hb10 := Lib.hid hb10
      have Hfa := Lib.hid hfa
      have Hka := Lib.hid hka
      have Hvin := Lib.hid hvin
      have Hm := Lib.hid hm
      have Hrows := Lib.hid hrows
      have Hc3 := Lib.hid c3
      have hbw : Below Wk.heap.size Wk W3 := by rw [← hW3]; exact (Below.refl _ _).alloc (Nat.le_refl _) _
      clear hM hM3 hW3 hb10 hfa hka hvin hrows hob hkd hv2 hv3 huo hm
      go_upto_region 8 with (fail)
      rw [HW3.out, Hb10.out]
      clear HW3 Hb10
      go_wp2_with fail
      refine Hcl.out.mono ?_
      rintro e w4 ⟨vF, rfl, hMF⟩
      have hM4 := (HM3.out.callMem hMF).drop (L' := rowV 84 vF ob :: clrE b8 Bk gK g.objs.length vO (.slice ar g.roots.length cr) vo vr vk k K w.heap.size #[.slice none 0 0, .slice none 0 0] #[.slice (some ⟨bo, oo, none⟩) g.objs.length co, .slice ar g.roots.length cr] rows) (.cons_cons _ (List.sublist_cons_self _ _))
      have hv4 := hM4.isVals 0 rfl (by rw [Hm.out]; omega) (fun x hx => Hk.out.1.fits.vals x (fields_in g (k : Int) x (by rw [Hfa.out]; exact hx)))
      obtain ⟨aF, cF, hFe, _⟩ := hv4.slice
      rw [Hm.out] at hFe
      subst hFe
      have hfar : ∀ g0, aF = some ⟨g0, 0, none⟩ → Wk.heap.size ≤ g0 := by
        intro g0 h0
        rcases (hMF.ownV 0 rfl).2 with ⟨h1, _⟩ | ⟨g1, cap, cur, h1, hB, _⟩
        · cases h1; cases h0
        · cases h1; cases h0; exact Nat.le_trans hbw.size hB
      have HFar := Lib.hid hfar
      have hB4 : Below Wk.heap.size Wk w4 := hbw.trans (hMF.below.mono hbw.size)
      have k4 := keeper_at hM4 3 4 rfl rfl (by rw [HKl.out]; omega)
      have c3' : w4.cell? ⟨bk, ok + k, none⟩ = some (.int .i64 kd) := (hB4.cell (p := ⟨_, _, none⟩) hbk).trans Hc3.out
      have hbk4 : bk < w4.heap.size := Nat.lt_of_lt_of_le hbk hB4.size
      have HM4 := Lib.hid hM4
      have K4 := Lib.hid k4
      clear hM4 hMF hv4 hfar HM3 Hcl k4 t0 tb c2 hbo
      go_upto_region 9 with (fail)
      go_cut [12] (fun s12 W' => s12 = .bool (deadL kd K ob) ∧ Below Wk.heap.size Wk W' ∧ Mem w.heap.size w W' (rowV 84 (.slice aF m cF) ob :: clrE b8 Bk gK g.objs.length vO (.slice ar g.roots.length cr) vo vr vk k K w.heap.size #[.slice none 0 0, .slice none 0 0] #[.slice (some ⟨bo, oo, none⟩) g.objs.length co, .slice ar g.roots.length cr] rows))
      case first =>
        by_cases h2 : kd = 2
        · subst h2
          by_cases hz : 0 < m
          · obtain ⟨f, hf⟩ := get_some ob 0 (by rw [Hm.out]; exact hz)
            have hz1 : (0 : Int) < (m : Int) := by omega
            obtain ⟨gF, capF, hv, d0, d1, _, hgb⟩ := HM4.out.valAt 0 rfl hf
            have haF : aF = some ⟨gF, 0, none⟩ := by cases hv; rfl
            subst haF
            simp only [Nat.zero_mul, Nat.zero_add] at d0 d1
            have Hal := Lib.hid (alive_any w4 Bk vo vr vk _ K f K4.out (Hvin.out f (List.mem_of_getElem? hf)))
            have hdd := deadL_some (kd := 2) (K := K) hf
            have Hdd := Lib.hid hdd
            clear hv hf hdd
            go_wp2_with fail
            refine Hal.out.mono ?_
            rintro e w5 ⟨rfl, hb5⟩
            have HM5 := Lib.hid (HM4.out.call hb5)
            have HB5 := Lib.hid (hB4.trans (hb5.mono hB4.size))
            go_wp2_with fail
            go_meet
            exact ⟨by rw [Hdd.out]; simp, HB5.out, HM5.out⟩
          · have hz1 : ¬ (0 : Int) < (m : Int) := by omega
            have Hdd := Lib.hid (deadL_none (kd := 2) (K := K) (l := ob) (by rw [Hm.out]; exact hz))
            go_wp2_with fail
            go_meet
            exact ⟨by rw [Hdd.out], hB4, HM4.out⟩
        · have h2' : (kd == 2) = false := by simpa using h2
          have Hdd : Hid (deadL kd K ob = false) := Lib.hid (by
            cases ob with
            | nil => rfl
            | cons f fs =>
              show (decide (kd = 2) && !aliveB K f) = false
              rw [decide_eq_false h2]; rfl)
          go_wp2_with fail
          go_meet
          exact ⟨by rw [Hdd.out], hB4, HM4.out⟩
      case rest =>
        obtain ⟨rfl, hBc, hMc⟩ := hcut
        obtain ⟨dd, hdd⟩ : ∃ dd, deadL kd K ob = dd := ⟨_, rfl⟩
        have Hdd := Lib.hid hdd
        rw [hdd]
        have HMc := Lib.hid (hMc.cast (L' := rowV 84 (.slice aF m cF) (partL kd K ob 0) :: clrE b8 Bk gK g.objs.length vO (.slice ar g.roots.length cr) vo vr vk k K w.heap.size #[.slice none 0 0, .slice none 0 0] #[.slice (some ⟨bo, oo, none⟩) g.objs.length co, .slice ar g.roots.length cr] rows) (by rw [partL_zero]))
        have HBc := Lib.hid hBc
        clear hMc hBc hdd HM4 K4 c3' hbk4 hB4 c3 hbw
        go_upto_region 11 with (fail)
        go_loopw [13, 14, 59] (fun _ _ s59 wq => ∃ j : Nat, j ≤ m ∧ s59 = .int .i64 (j : Int) ∧ Below Wk.heap.size Wk wq ∧ Mem w.heap.size w wq (rowV 84 (.slice aF m cF) (partL kd K ob j) :: clrE b8 Bk gK g.objs.length vO (.slice ar g.roots.length cr) vo vr vk k K w.heap.size #[.slice none 0 0, .slice none 0 0] #[.slice (some ⟨bo, oo, none⟩) g.objs.length co, .slice ar g.roots.length cr] rows)) (fun _ _ i _ => m - (intOf i).toNat)
        case atStart => exact ⟨0, Nat.zero_le _, rfl, HBc.out, HMc.out⟩
        case round =>
          clear HMc HBc
          obtain ⟨j, hj, rfl, hBq, hM⟩ := hrel
          by_cases hltj : j < m
          · obtain ⟨x, hx⟩ := get_some ob j (by rw [Hm.out]; exact hltj)
            obtain ⟨gF, capF, hv, d0, d1, _, hgb⟩ := hM.valAt 0 rfl (partL_get hx)
            have haF : aF = some ⟨gF, 0, none⟩ := by cases hv; rfl
            subst haF
            have j1 : (j : Int) < (m : Int) := by omega
            have hM6 := hM.alloc #[.bool x.ref, .int .i64 x.n] 84
            obtain ⟨W6, hW6⟩ : ∃ W6, wr.alloc (.cells #[.bool x.ref, .int .i64 x.n] 84) = W6 := ⟨_, rfl⟩
            obtain ⟨b14, hb14⟩ : ∃ b14, wr.heap.size = b14 := ⟨_, rfl⟩
            have hB6 : Below Wk.heap.size Wk W6 := by rw [← hW6]; exact hBq.alloc hBq.size _
            rw [hW6, hb14] at hM6
            have u0 := hM6.cell 0 rfl 0
            have u1 := hM6.cell 0 rfl 1
            have ub := (hM6.box 0 rfl).2.1
            have k6 := keeper_at hM6 4 5 rfl rfl (by rw [HKl.out]; omega)
            have c3' : W6.cell? ⟨bk, ok + k, none⟩ = some (.int .i64 kd) := (hB6.cell (p := ⟨_, _, none⟩) hbk).trans Hc3.out
            have hbk6 : bk < W6.heap.size := Nat.lt_of_lt_of_le hbk hB6.size
            have Hal := Lib.hid (alive_any W6 Bk vo vr vk _ K x k6 (Hvin.out x (List.mem_of_getElem? hx)))
            have HM6 := Lib.hid (hM6.drop (List.sublist_cons_self _ _))
            have HB6 := Lib.hid hB6
            have HW6 := Lib.hid hW6
            have Hb14 := Lib.hid hb14
            have Hx := Lib.hid hx
            clear hM hM6 hB6 hW6 hb14 hx hv k6 hBq
            go_upto_region 13 with (fail)
            rw [HW6.out, Hb14.out]
            clear HW6 Hb14 d0 d1 hgb
            go_cut [77] (fun s77 W' => s77 = .bool (wantB kd K dd x) ∧ Below Wk.heap.size Wk W' ∧ Mem w.heap.size w W' (rowV 84 (.slice (some ⟨gF, 0, none⟩) m cF) (partL kd K ob j) :: clrE b8 Bk gK g.objs.length vO (.slice ar g.roots.length cr) vo vr vk k K w.heap.size #[.slice none 0 0, .slice none 0 0] #[.slice (some ⟨bo, oo, none⟩) g.objs.length co, .slice ar g.roots.length cr] rows))
            case first =>
              cases dd with
              | true =>
                go_wp2_with fail
                go_meet
                exact ⟨rfl, HB6.out, HM6.out⟩
              | false =>
                by_cases h1 : kd = 1
                · subst h1
                  have Hwt : Hid (wantB 1 K false x = !aliveB K x) := Lib.hid rfl
                  go_wp2_with fail
                  refine Hal.out.mono ?_
                  rintro e w7 ⟨rfl, hb7⟩
                  have HM7 := Lib.hid (HM6.out.call hb7)
                  have HB7 := Lib.hid (HB6.out.trans (hb7.mono HB6.out.size))
                  go_wp2_with fail
                  go_meet
                  exact ⟨by rw [Hwt.out], HB7.out, HM7.out⟩
                · have h1' : (kd == 1) = false := by simpa using h1
                  have Hwt : Hid (wantB kd K false x = false) := Lib.hid (by unfold wantB; rw [decide_eq_false h1]; rfl)
                  go_wp2_with fail
                  go_meet
                  exact ⟨by rw [Hwt.out], HB6.out, HM6.out⟩
            case rest =>
              obtain ⟨rfl, hB7, hM7⟩ := hcut
              have hst := partL_step (kd := kd) (K := K) Hx.out
              have hsm := partL_same (kd := kd) (K := K) Hx.out
              rw [Hdd.out, wipe1_want] at hst hsm
              obtain ⟨wt, hwt⟩ : ∃ wt, wantB kd K dd x = wt := ⟨_, rfl⟩
              rw [hwt] at hst hsm ⊢
              obtain ⟨gF', capF', hv, d0, d1, hfz, hgb⟩ := hM7.valAt 0 rfl (partL_get Hx.out)
              have hgF : gF' = gF := by cases hv; rfl
              subst hgF
              have f0 := hfz (j * 2)
              have f1 := hfz (j * 2 + 1)
              have hM8 := hM7.setVal 0 rfl (by rw [partL_len, Hm.out]) (j := j) (by rw [partL_len, Hm.out]; exact hltj) ⟨false, 0⟩
              have hB8 : Below Wk.heap.size Wk ((wc.setCell ⟨gF', j * 2, none⟩ (.bool false)).setCell ⟨gF', j * 2 + 1, none⟩ (.int .i64 0)) := (hB7.setCell (HFar.out gF' rfl) _).setCell (HFar.out gF' rfl) _
              have HB7 := Lib.hid hB7
              have HB8 := Lib.hid hB8
              have HM7 := Lib.hid hM7
              have HM8 := Lib.hid hM8
              clear hB7 hM7 hM8 hv hfz hwt HM6 HB6 Hal u0 u1 ub c3' hbk6 hB8
              cases wt with
              | true =>
                rw [if_pos rfl] at hst
                have Hst := Lib.hid hst
                clear hst hsm
                go_wp2_with fail
                go_roundw
                case rel => exact ⟨j + 1, by omega, by go_num, HB8.out, HM8.out.cast (by rw [← Hst.out]; rfl)⟩
                case measure => simp [intOf]; omega
              | false =>
                have Hsm := Lib.hid (hsm rfl)
                clear hst hsm
                go_wp2_with fail
                go_roundw
                case rel => exact ⟨j + 1, by omega, by go_num, HB7.out, HM7.out.cast (by rw [Hsm.out])⟩
                case measure => simp [intOf]; omega
          · obtain rfl : m = j := by omega
            have hpa := partL_all kd K ob
            rw [Hm.out] at hpa
            rw [hpa] at hM
            have s0 := hM.cell 1 rfl 0
            have sb := (hM.box 1 rfl).2.1
            have HM := Lib.hid hM
            have hk1000 : k ≤ 1000000 := by omega
            clear hM hpa hBq
            go_wp2_with (refine Mem.wp_app1 elemObjs rfl (.tmp 84) (.tmp 87) rfl HM.out 2 rfl rfl _ #[.slice aF m cF] _ _ rfl rfl rfl rfl (by decide) hk1000 ?_; intro ad cp w6 hM6 hs6 hk6 ha6; have u0 := hM6.cell 1 rfl 0; have u1 := hM6.free 1 rfl 0; have ub := (hM6.box 1 rfl).2.1)
            go_roundw
            case rel =>
              refine ⟨k + 1, .slice ad (k + 1) cp, rows ++ [(.slice aF m cF, wipeL kd K ob)], by omega, by go_num, ?_, ?_⟩
              · rw [List.map_append, Hrows.out, List.range_succ, List.map_append]
                simp only [List.map_cons, List.map_nil]
                rw [Hka.out, Hfa.out]
              · have hM7 := hM6.setBox 1 rfl 0 (.slice ad (k + 1) cp)
                exact (Mem.rowsSnoc (rows := rows) (v := .slice aF m cF) (l := wipeL kd K ob) (A := [ebox b8 #[.slice ad (k + 1) cp, .slice ar g.roots.length cr] 25, erow 61 1 (.slice ad (k + 1) cp) (k + 1) (rows.map (·.1) ++ [.slice aF m cF]), ebox Bk #[vo, vr, vk, .slice (some ⟨gK, 0, none⟩) g.objs.length g.objs.length] 149, rowB (.slice (some ⟨gK, 0, none⟩) g.objs.length g.objs.length) K, ebox (w.heap.size + 1) #[.slice none 0 0, .slice none 0 0] 25, ebox w.heap.size #[.slice (some ⟨bo, oo, none⟩) g.objs.length co, .slice ar g.roots.length cr] 25]) (hM7.cast (by simp [clrE]))).cast (by simp [clrE])
            case measure => simp [intOf]; omega
    · obtain rfl : k = g.objs.length := by omega
      obtain ⟨aO, nO, cO, rfl⟩ := hM.isSlice 1 rfl
      have hFit := wipeG_fits Hk.out.1 ks K
      have hGW : ∀ X, Below Wk.heap.size Wk X → IsGraph X (.agg #[.slice aO nO cO, .slice ar g.roots.length cr]) (wipeG g ks K) := by
        intro X hX
        have hMX := hM.call hX
        have hMr : Mem w.heap.size w X (rowsE rows) := hMX.drop (List.sublist_append_right [_, _, _, _, _, _] _)
        have hlen : rows.length = g.objs.length := by have := congrArg List.length hrows; simpa using this
        have hmem : ∀ r ∈ rows, r.2 ∈ (wipeG g ks K).objs := by
          intro r hr
          have h3 : r.2 ∈ rows.map (·.2) := List.mem_map.2 ⟨r, hr, rfl⟩
          rw [hrows] at h3
          exact h3
        refine ⟨_, _, rfl, ?_, HR.out.later hMX.below⟩
        have h2 := isObjs_of_own (hMX.row 1 rfl) (by omega) (fun r hr => hMr.isValsM (e := 84) (List.mem_map.2 ⟨r, hr, rfl⟩) (by have := hFit.fields _ (hmem r hr); omega) (fun x hx => hFit.vals x (List.mem_append_right _ (List.mem_flatten.2 ⟨r.2, hmem r hr, hx⟩))))
        rw [hrows] at h2
        exact h2
      have hll := listTo_len K K.length
      have Q1 : Hid (∀ X, Below Wk.heap.size Wk X → Calls Try.prog 45 #[.pointer (some ⟨Bk, 0, none⟩)] X fun e w' => ∃ vl, e = .returned vl ∧ IsInts w' vl (listK K) ∧ Below X.heap.size X w') := Lib.hid (fun X hX => by
        refine (list_any Bk vo vr vk gK g.objs.length K X (keeper_at (hM.call hX) 2 3 rfl rfl (by rw [HKl.out]; omega)) HKl.out hn).mono ?_
        rintro e w' ⟨vl, rfl, hMl⟩
        exact ⟨vl, rfl, isInts_of_own (hMl.ownI 0 rfl) (by unfold listK; have := HKl.out; omega) (fun x hx => by have := listK_in hx; have := HKl.out; exact ⟨by omega, by omega⟩), hMl.below⟩)
      have Q2 : Hid (∀ X vl, Below Wk.heap.size Wk X → IsInts X vl (listK K) → Calls Try.prog 48 #[.agg #[.slice aO nO cO, .slice ar g.roots.length cr], vl] X fun e w' => ∃ a1 n1 c1 a2 n2 c2, e = .returned (.agg #[.slice a1 n1 c1, .slice a2 n2 c2]) ∧ GraftR X.heap.size w' (.agg #[.slice a1 n1 c1, .slice a2 n2 c2]) (renum (wipeG g ks K) (listK K)) ∧ Below X.heap.size X w') := Lib.hid (fun X vl hX hI => by
        refine (renumber_room (wipeG g ks K) hFit _ vl (listK K) X (hGW X hX) hI (by unfold listK; have := HKl.out; omega) (fun x hx => by rw [wipeG_len]; have := listK_in hx; have := HKl.out; omega)).mono ?_
        rintro e w' ⟨v', rfl, hgr, hb⟩
        obtain ⟨a1, c1, a2, c2, rfl, _, _⟩ := ((hgr.later (Below.refl _ _)).1).shape
        exact ⟨_, _, _, _, _, _, rfl, hgr, hb⟩)
      have HCs : Hid (∀ X, Below Wk.heap.size Wk X → X.cell? ⟨b8, 0, none⟩ = some (.slice aO nO cO) ∧ X.cell? ⟨b8, 1, none⟩ = some (.slice ar g.roots.length cr)) := Lib.hid (fun X hX => by
        have hMX := hM.call hX
        exact ⟨hMX.cell 0 rfl 0, hMX.cell 0 rfl 1⟩)
      have HCr : Hid (∀ X, Below Wk.heap.size Wk X → X.cell? ⟨w.heap.size + 1, 0, none⟩ = some (.slice none 0 0) ∧ X.cell? ⟨w.heap.size + 1, 1, none⟩ = some (.slice none 0 0) ∧ X.frozen? ⟨w.heap.size + 1, 0, none⟩ = false ∧ X.frozen? ⟨w.heap.size + 1, 1, none⟩ = false ∧ w.heap.size + 1 < X.heap.size ∧ ∀ x y, Mem w.heap.size w ((X.setCell ⟨w.heap.size + 1, 0, none⟩ x).setCell ⟨w.heap.size + 1, 1, none⟩ y) [ebox (w.heap.size + 1) #[x, y] 25, ebox b8 #[.slice aO nO cO, .slice ar g.roots.length cr] 25]) := Lib.hid (fun X hX => by
        have hMX := hM.call hX
        refine ⟨hMX.cell 4 rfl 0, hMX.cell 4 rfl 1, hMX.free 4 rfl 0, hMX.free 4 rfl 1, (hMX.box 4 rfl).2.1, fun x y => ?_⟩
        exact (((hMX.setBox 4 rfl 0 x).setBox 4 rfl 1 y).pick0 [4, 0] (by decide) rfl))
      have HBd := Lib.hid ((Below.refl Wk.heap.size Wk).drew)
      have hbs : w.heap.size + 1 < Wk.heap.size := (hM.box 4 rfl).2.1
      have Hbs := Lib.hid hbs
      clear hM hGW hFit hrows hll hbs
      go_upto_region 18 with (fail)
      go_region_held3 (fun X => X.cell? ⟨b8, 0, none⟩ = some (.slice aO nO cO) ∧ X.cell? ⟨b8, 1, none⟩ = some (.slice ar g.roots.length cr))
        (first | exact HCs.out _ HBd.out | exact HCs.out _ hB8 | exact HCs.out _ hB9 | exact ⟨(HMr.out _ _).cell 1 rfl 0, (HMr.out _ _).cell 1 rfl 1⟩ | fail)
        (first
          | (go_at_call 45
             refine (Q1.out _ HBd.out).mono ?_
             rintro e w8 ⟨vl, rfl, hI, hb8⟩
             have hB8 := HBd.out.trans (hb8.mono HBd.out.size)
             clear hb8)
          | (go_at_call 48
             refine (Q2.out _ _ hB8 hI).mono ?_
             rintro e w9 ⟨a1, n1, c1, a2, n2, c2, rfl, hgr, hb9⟩
             have hB9 := hB8.trans (hb9.mono hB8.size)
             obtain ⟨r0, r1, f0, f1, fb, hMr⟩ := HCr.out _ hB9
             have HMr := Lib.hid hMr
             have Hgr := Lib.hid hgr
             have Hb9 := Lib.hid hb9
             clear hMr hgr hb9)
          | fail)
      have hMz := HMr.out (.slice a1 n1 c1) (.slice a2 n2 c2)
      have hgf : GraftR w.heap.size ((w9.setCell ⟨w.heap.size + 1, 0, none⟩ (.slice a1 n1 c1)).setCell ⟨w.heap.size + 1, 1, none⟩ (.slice a2 n2 c2)) (.agg #[.slice a1 n1 c1, .slice a2 n2 c2]) (renum (wipeG g ks K) (listK K)) := by
        have h8 := hB8.size
        have h0 := Hbs.out
        refine Hgr.out.step (by omega) (by simp) fun b hb _ => ?_
        rw [Below.heap_setCell _ _ _ _ (by simp only; omega), Below.heap_setCell _ _ _ _ (by simp only; omega)]
      obtain ⟨W20, hW20⟩ : ∃ W20, (w9.setCell ⟨w.heap.size + 1, 0, none⟩ (.slice a1 n1 c1)).setCell ⟨w.heap.size + 1, 1, none⟩ (.slice a2 n2 c2) = W20 := ⟨_, rfl⟩
      rw [hW20] at hMz hgf ⊢
      have z0 := hMz.cell 0 rfl 0
      have z1 := hMz.cell 0 rfl 1
      have Hgf := Lib.hid hgf
      have HBz := Lib.hid hMz.below
      clear hMz hgf hB8 hB9 hI
      go_wp2_with fail
      exact bodyPost_ret (v := .tuple #[.agg #[.slice a1 n1 c1, .slice a2 n2 c2], .int .i64 0]) (by simp [results, Try.results25, go_sem, z0, z1]) rfl ⟨K, _, rfl, HW.out, Hgf.out, HBz.out⟩
set_option maxRecDepth 100000 in
set_option maxHeartbeats 1000000 in
theorem clear_no (g : G) (v u : Value) (ks : List Int) (w : World) (hg : IsGraph w v g) (hu : IsInts w u ks) (hk : ¬ KindOf g ks) :
    Calls Try.prog 25 #[v, u] w fun e w' => (∃ c : Int, (c == 0) = false ∧ (c != 0) = true ∧ e = .returned (.tuple #[.agg #[.slice none 0 0, .slice none 0 0], .int .i64 c])) ∧ Below w.heap.size w w' := by
  have Hg := Lib.hid hg
  obtain ⟨vo, vr, rfl, ho, hr⟩ := hg
  obtain ⟨ao, co, rfl, hlo⟩ := ho.slice
  obtain ⟨ar, cr, rfl, hlr⟩ := hr.slice
  have hM0 := ((Mem.start w).alloc #[.slice ao g.objs.length co, .slice ar g.roots.length cr] 25).alloc #[.slice none 0 0, .slice none 0 0] 25
  simp only [World.size_alloc] at hM0
  have Ho := Lib.hid (open_no g _ u ks _ (Hg.out.later hM0.below) (hu.later hM0.below) hk)
  have HM0 := Lib.hid hM0
  clear ho hr hu hk hM0
  go_enter Try.func25, Try.ntmps25
  go_wp2_with fail
  refine Ho.out.mono ?_
  rintro e w1 ⟨⟨c, hc, hc2, rfl⟩, hb1⟩
  have hM1 := HM0.out.call hb1
  have p0 := hM1.cell 0 rfl 0
  have p1 := hM1.cell 0 rfl 1
  have f0 := hM1.free 0 rfl 0
  have f1 := hM1.free 0 rfl 1
  have fb := (hM1.box 0 rfl).2.1
  have hM2 := (hM1.setBox 0 rfl 0 (.slice none 0 0)).setBox 0 rfl 1 (.slice none 0 0)
  have z0 := hM2.cell 0 rfl 0
  have z1 := hM2.cell 0 rfl 1
  have HB := Lib.hid hM2.below
  have Hcc : Hid ((c == 0) = false ∧ (c != 0) = true) := Lib.hid ⟨hc, hc2⟩
  clear hM1 hM2 hb1 HM0
  go_wp2
  exact bodyPost_ret (v := .tuple #[.agg #[.slice none 0 0, .slice none 0 0], .int .i64 c]) (by simp [results, Try.results25, go_sem, z0, z1]) rfl ⟨⟨c, Hcc.out.1, Hcc.out.2, rfl⟩, HB.out⟩
end Go.Proofs.Ytjnbnfmlpdnngaa
