/- VisitOnce, walked. -/
import Derived.Test.YtgdodbdipbomfaaKf
import Derived.Test.YtgdodbdipbomfaaBu
import Derived.Deep.RegionHeld3
import Derived.Deep.DeepCutAuto
namespace Go.Proofs.Ytgdodbdipbomfaa
open Go.RowKit Go.Shelf Go.Maps

set_option maxRecDepth 100000 in
set_option maxHeartbeats 1000000 in
theorem hasWord_any (v : Value) (l : List Int) (p : Nat) (w : World) (hl : IsW w v l) (hp : p ≤ 256) :
    Calls Try.prog 19 #[v, .int .i64 p] w fun e w' => e = .returned (.bool (decide ((p : Int) * 2 ∈ l))) ∧ w = w' := by
  obtain ⟨a, cap, rfl, hm⟩ := hl.slice
  obtain ⟨n, hn⟩ : ∃ n, l.length = n := ⟨_, rfl⟩
  have Hl := Lib.hid hl
  have Hn := Lib.hid hn
  rw [hn] at hm ⊢
  clear hl hn
  go_enter Try.func19, Try.ntmps19
  go_wp2
  go_loopw [9] (fun i wr => ∃ k : Nat, k ≤ n ∧ i = .int .i64 k ∧ (p : Int) * 2 ∉ l.take k ∧ w = wr) (fun i _ => n - (intOf i).toNat)
  case atStart => exact ⟨0, Nat.zero_le _, rfl, by simp, rfl⟩
  case round =>
    obtain ⟨k, hk, rfl, hT, rfl⟩ := hrel
    by_cases hlt : k < n
    · obtain ⟨x, hx⟩ := get_some l k (by rw [Hn.out]; exact hlt)
      obtain ⟨b, off, cap2, hv, hb, _, c1, hx64⟩ := Hl.out.at (Below.refl _ _) hx
      rw [Hn.out] at hv
      cases hv
      by_cases hxp : x = (p : Int) * 2
      · have e1 : (x == (p : Int) * 2) = true := by simpa using hxp
        have Hd : Hid (decide ((p : Int) * 2 ∈ l) = true) := Lib.hid (decide_eq_true (by rw [← hxp]; exact List.mem_of_getElem? hx))
        clear hx hT hxp hx64
        go_wp2
        go_ret
        exact ⟨by rw [Hd.out]; rfl, rfl⟩
      · have e1 : (x == (p : Int) * 2) = false := by simpa using hxp
        have HT : Hid ((p : Int) * 2 ∉ l.take (k + 1)) := Lib.hid (by
          rw [take_succ_some _ _ _ hx, List.mem_append, not_or]
          exact ⟨hT, by simp; omega⟩)
        clear hx hT hxp hx64
        go_wp2
        go_roundw
        case rel => exact ⟨k + 1, by omega, by go_num, HT.out, trivial⟩
        case measure => simp [intOf]; omega
    · obtain rfl : k = n := by omega
      rw [show l.take k = l by rw [← Hn.out, List.take_length]] at hT
      have Hd : Hid (decide ((p : Int) * 2 ∈ l) = false) := Lib.hid (decide_eq_false hT)
      clear hT
      go_wp2
      go_ret
      exact ⟨by rw [Hd.out]; rfl, rfl⟩
theorem cell_lt' {X : World} {b off : Nat} {v : Value} (h : X.cell? ⟨b, off, none⟩ = some v) : b < X.heap.size := by
  rcases Nat.lt_or_ge b X.heap.size with h1 | h1
  · exact h1
  · rw [World.cell?, Array.getElem?_eq_none h1] at h; cases h
theorem hasRef_word {os : List Ob} {l : List Int} (hl : ∀ y ∈ l, RefOk os y) {i : Nat} (h : HasRef os l i) : (place os i : Int) * 2 ∈ l := by
  obtain ⟨y, hy, he, hi⟩ := h
  rcases hl y hy with ho | ⟨_, _, hst⟩
  · omega
  · obtain ⟨j, hj, e⟩ := starts_mem.1 hst
    rw [e, idx_place hj] at hi
    obtain rfl : j = i := by omega
    rwa [show (place os j : Int) * 2 = y by omega]
theorem IsInts.front {w : World} {b o m c i : Nat} {l : List Int} (h : IsInts w (.slice (some ⟨b, o, none⟩) m c) l) (hi : i ≤ l.length) : IsInts w (.slice (some ⟨b, o, none⟩) i c) (l.take i) := by
  obtain ⟨a, cap, hv, hl, hc⟩ := h
  cases hv
  refine ⟨_, _, by rw [List.length_take, Nat.min_eq_left hi], by rw [List.length_take]; omega, fun k x hx => ?_⟩
  have hk := (List.getElem?_eq_some_iff.1 hx).1
  rw [List.length_take] at hk
  rw [List.getElem?_take_of_lt (by omega)] at hx
  exact hc k x hx
/-- None ahead of it has a reference to it. -/
def NoneYet (os : List Ob) (rs M : List Int) (p : Nat) (j : Nat) : Prop := (p : Int) * 2 ∉ rs ∧ ∀ t z, t < j → M[t]? = some z → (p : Int) * 2 ∉ (obj os z).2

set_option maxRecDepth 100000 in
set_option maxHeartbeats 4000000 in
theorem visitOnce_walk (vw vr : Value) (ws rs : List Int) (w : World) (hw : IsW w vw ws) (hr : IsW w vr rs) :
    Calls Try.prog 3 #[.agg #[vw, vr]] w fun e w' => e = .returned (.bool true) ∧ Below w.heap.size w w' := by
  have Hw := Lib.hid hw
  have Hr := Lib.hid hr
  obtain ⟨aw, cw, rfl, hmw⟩ := hw.slice
  obtain ⟨ar, cr, rfl, hmr⟩ := hr.slice
  have hM0 := (Mem.start w).alloc #[.slice aw ws.length cw, .slice ar rs.length cr] 24
  have HC := Lib.hid (sound_any _ _ ws rs _ (hw.later hM0.below) (hr.later hM0.below))
  have HM0 := Lib.hid hM0
  clear hw hr hM0
  go_enter Try.func3, Try.ntmps3
  go_wp2_with fail
  refine HC.out.mono ?_
  rintro e w2 ⟨hb, hcase⟩
  have hM2 := HM0.out.call hb
  have c0 : w2.cell? ⟨w.heap.size, 0, none⟩ = some (.slice aw ws.length cw) := by have := hM2.cell 0 rfl 0; simpa using this
  have c1 : w2.cell? ⟨w.heap.size, 1, none⟩ = some (.slice ar rs.length cr) := by have := hM2.cell 0 rfl 1; simpa using this
  have z0 : w.heap.size < w2.heap.size := (hM2.box 0 rfl).2.1
  have HM2 := Lib.hid hM2
  clear hb hM2 HC HM0
  rcases hcase with ⟨rfl, os, hS⟩ | ⟨rfl, hn⟩
  · obtain ⟨F, hF⟩ := ord_exists (read_rng hS)
    have h64 : ∀ x ∈ allW rs os, w64 x := fun x hx => by
      rcases List.mem_append.1 hx with h | h
      · exact Hr.out.all x h
      · exact Hw.out.all x (fieldsOf_mem hS.laid x h)
    obtain ⟨m, hm⟩ : ∃ m, F.length = m := ⟨_, rfl⟩
    obtain ⟨nO, hnO⟩ : ∃ nO, os.length = nO := ⟨_, rfl⟩
    have hws := hS.words
    have hnOs : nO ≤ 256 := by have := hS.laid.count; omega
    have hms : m ≤ 256 := by
      have h1 := nodup_sub_len F (upTo os.length) hF.nodup (fun x hx => mem_upTo.2 ((ord_keeps hS hF).rng x hx))
      rw [upTo_len] at h1; omega
    have HVs := Lib.hid (visitA_is _ _ ws rs os F w2 (Hw.out.later HM2.out.below) (Hr.out.later HM2.out.below) hS h64 hF m hm)
    have HSt : Hid (∀ X u, IsW X u ws → Calls Try.prog 15 #[u] X fun e w' => ∃ a c, e = .returned (.tuple #[.slice a nO c, .bool true]) ∧ IsInts w' (.slice a nO c) (starts os) ∧ Below X.heap.size X w') := Lib.hid (fun X u hu => by
      refine (rStarts_any u ws X hu hws).mono ?_
      rintro e w' (⟨o', r, hL, rfl, hM⟩ | ⟨hno, _⟩)
      · obtain rfl := hS.laid.unique hL
        have hI := isInts_of_own (hM.ownI 0 rfl) (by rw [starts_len]; omega) (starts_64 hS.laid (by omega))
        obtain ⟨a, c, rfl, _⟩ := hI.slice
        rw [starts_len, hnO] at hI ⊢
        exact ⟨a, c, rfl, hI, hM.below⟩
      · exact absurd hS.laid (hno _))
    have HRd : Hid (∀ X u v, IsW X u ws → IsW X v rs → Calls Try.prog 17 #[.agg #[u, v]] X fun e w' => ∃ g, e = .returned g ∧ IsGraph w' g (readG os rs) ∧ Below X.heap.size X w') := Lib.hid (fun X u v hu hv => by
      refine (rread_yes u v ws rs os X hu hv hS).mono ?_
      rintro e w' ⟨g, rfl, hg, hb⟩
      exact ⟨g, rfl, hg.here, hb⟩)
    have HRe : Hid (∀ X g, IsGraph X g (readG os rs) → Calls Try.prog 16 #[g] X fun e w' => ∃ a c, e = .returned (.slice a m c) ∧ Below X.heap.size X w') := Lib.hid (fun X g hg => by
      refine (reachR_any (readG os rs) (by unfold readG; simp; omega) g X hg).mono ?_
      rintro e w' ⟨vl, l, rfl, hL, hM⟩
      have hl : l.length = m := by
        have hiff := reach_found (read_rng hS) hL hF
        rw [← hm]
        exact Nat.le_antisymm (nodup_sub_len l F (hL.rising.imp (fun h => by omega)) fun x hx => (hiff x).2 hx) (nodup_sub_len F l hF.nodup fun x hx => (hiff x).1 hx)
      obtain ⟨a, c, rfl⟩ := own_row (hM.row 0 rfl)
      rw [hl]
      exact ⟨a, c, rfl, hM.below⟩)
    have HP := Lib.hid (And.intro hS (And.intro hF hnO))
    clear hS hF h64 hm hnO
    go_wp2_with fail
    refine HVs.out.mono ?_
    rintro e w3 ⟨a1, d1, a2, d2, a3, d3, M, rfl, hMl, hMn, hMF, hMc, hcap, _, _, hi3, hb3⟩
    have hM3 := HM2.out.call hb3
    have hM4 := hM3.alloc #[.slice a1 ws.length d1, .slice a2 rs.length d2] 24
    have y2 : w3.cell? ⟨w.heap.size, 0, none⟩ = some (.slice aw ws.length cw) := by have := hM3.cell 0 rfl 0; simpa using this
    have yz : w.heap.size < w3.heap.size := (hM3.box 0 rfl).2.1
    obtain ⟨b3, hb3e⟩ : ∃ b3, w3.heap.size = b3 := ⟨_, rfl⟩
    obtain ⟨W4, hW4⟩ : ∃ W4, w3.alloc (.cells #[.slice a1 ws.length d1, .slice a2 rs.length d2] 24) = W4 := ⟨_, rfl⟩
    have hB4 : Below w3.heap.size w3 W4 := by rw [← hW4]; exact (Below.refl _ _).alloc (Nat.le_refl _) _
    rw [hb3e, hW4] at hM4
    have HSt4 := Lib.hid (HSt.out W4 _ (Hw.out.later hM4.below))
    have HCs : Hid (∀ X, Below W4.heap.size W4 X → X.cell? ⟨w.heap.size, 0, none⟩ = some (.slice aw ws.length cw) ∧ X.cell? ⟨w.heap.size, 1, none⟩ = some (.slice ar rs.length cr)) := Lib.hid (fun X hX => by
      have hMX := hM4.call hX
      refine ⟨?_, ?_⟩
      · have := hMX.cell 1 rfl 0; simpa using this
      · have := hMX.cell 1 rfl 1; simpa using this)
    have HI3 := Lib.hid (hi3.later hB4)
    have HM4 := Lib.hid hM4
    have HW4 := Lib.hid hW4
    have Hb3 := Lib.hid hb3e
    have HMM := Lib.hid (And.intro hMl (And.intro hMn (And.intro hMF hMc)))
    clear hM3 hM4 hb3 hb3e hW4 hB4 hi3 HVs HSt c0 c1 z0 HM2 hMl hMn hMF hMc
    go_wp2_with fail
    rw [Hb3.out, HW4.out]
    refine HSt4.out.mono ?_
    rintro e w5 ⟨sa, sc, rfl, hi5, hb5⟩
    obtain ⟨p0, p1⟩ := HCs.out _ hb5
    have pz := cell_lt' p0
    have HRd5 := Lib.hid (HRd.out w5 _ _ ((Hw.out.later HM4.out.below).later hb5) ((Hr.out.later HM4.out.below).later hb5))
    have HB5 := Lib.hid hb5
    have HI5 := Lib.hid hi5
    clear hb5 hi5 HSt4 HRd y2 yz HW4 Hb3
    go_wp2_with fail
    refine HRd5.out.mono ?_
    rintro e w6 ⟨g, rfl, hg6, hb6⟩
    have HRe6 := Lib.hid (HRe.out w6 g hg6)
    have HB6 := Lib.hid (HB5.out.trans (hb6.mono HB5.out.size))
    have HI5 := Lib.hid (HI5.out.later hb6)
    clear hg6 hb6 HRe HRd5 HB5 p0 p1 pz
    go_wp2_with fail
    refine HRe6.out.mono ?_
    rintro e w7 ⟨ra, rc, rfl, hb7⟩
    have HB7 := Lib.hid (HB6.out.trans (hb7.mono HB6.out.size))
    have HI5 := Lib.hid (HI5.out.later hb7)
    have HI7 := Lib.hid (HI3.out.later HB7.out)
    have e1 : ((m : Int) != (m : Int)) = false := by simp
    clear hb7 HRe6 HB6 HI3
    go_wp2
    go_loopw [8] (fun s8 wr => ∃ i : Nat, i ≤ m ∧ s8 = .int .i64 i ∧ Below w7.heap.size w7 wr) (fun s8 _ => m - (intOf s8).toNat)
    case atStart => exact ⟨0, Nat.zero_le _, rfl, Below.refl _ _⟩
    case round =>
      obtain ⟨i, hi, rfl, hBr⟩ := hrel
      by_cases hlt : i < m
      · obtain ⟨hS, hF, hnO⟩ := HP.out
        obtain ⟨hMl, hMn, hMF, hMc⟩ := HMM.out
        obtain ⟨x, hx⟩ := get_some M i (by omega)
        have hrng := (ord_keeps hS hF).rng
        have hxF := (hMF x).1 (List.mem_of_getElem? hx)
        have hxr := hrng x hxF
        obtain ⟨xN, rfl⟩ : ∃ xN : Nat, x = xN := ⟨x.toNat, by omega⟩
        have hxl : xN < os.length := by omega
        obtain ⟨p, hp⟩ : ∃ p, place os xN = p := ⟨_, rfl⟩
        have hp256 : p ≤ 256 := by
          have h1 := place_mono (os := os) (Nat.le_of_lt hxl)
          rw [place_all, ← hS.laid.1] at h1; omega
        have hpl : ∀ (t : Nat) (z : Int), M[t]? = some z → (M.map (plS os))[t]? = some (plS os z) := fun t z hz => by rw [List.getElem?_map, hz]; rfl
        have hpi : (M.map (plS os))[i]? = some (p : Int) := by rw [hpl i _ hx]; unfold plS; rw [Int.toNat_natCast, hp]
        obtain ⟨bL, oL, cL, hv, _, zL, dL, _⟩ := HI7.out.at hBr hpi
        rw [List.length_map, hMl] at hv
        cases hv
        have hst : (p : Int) ∈ starts os := starts_mem.2 ⟨xN, hxl, by rw [hp]⟩
        have hnot : (p : Int) ∉ (M.map (plS os)).take i := by
          intro h
          obtain ⟨t, ht⟩ := List.getElem?_of_mem h
          have htl := (List.getElem?_eq_some_iff.1 ht).1
          rw [List.length_take] at htl
          rw [List.getElem?_take_of_lt (by omega)] at ht
          obtain ⟨z, hz⟩ := get_some M t (by omega)
          rw [hpl t z hz] at ht
          have hzr := hrng z ((hMF z).1 (List.mem_of_getElem? hz))
          have hze : z.toNat = xN := by
            refine place_inj (os := os) (by omega) hxl ?_
            have := Option.some.inj ht
            unfold plS at this
            omega
          have hzx : z = (xN : Int) := by omega
          subst hzx
          have hpw := List.nodup_iff_pairwise_ne.1 hMn
          exact List.pairwise_iff_getElem.1 hpw t i (by omega) (by omega) (by omega) (((List.getElem?_eq_some_iff.1 hz).2).trans (List.getElem?_eq_some_iff.1 hx).2.symm)
        have HU : Hid (∀ X, Below w7.heap.size w7 X → X.cell? ⟨w.heap.size, 0, none⟩ = some (.slice aw ws.length cw) ∧ X.cell? ⟨w.heap.size, 1, none⟩ = some (.slice ar rs.length cr) ∧ X.cell? ⟨bL, oL + i, none⟩ = some (.int .i64 p)) := Lib.hid (fun X hX => by
          obtain ⟨h0, h1⟩ := HCs.out X (HB7.out.trans (hX.mono HB7.out.size))
          refine ⟨h0, h1, ?_⟩
          obtain ⟨b', o', c', hv, _, _, d, _⟩ := HI7.out.at hX hpi
          cases hv; exact d)
        have HH1 : Hid (∀ X, Below w7.heap.size w7 X → Calls Try.prog 18 #[.slice sa nO sc, .int .i64 p] X fun e w' => e = .returned (.bool true) ∧ X = w') := Lib.hid (fun X hX => has_yes _ _ _ X (HI5.out.later hX) hst)
        have HH2 : Hid (∀ X, Below w7.heap.size w7 X → Calls Try.prog 18 #[.slice (some ⟨bL, oL, none⟩) i d3, .int .i64 p] X fun e w' => e = .returned (.bool false) ∧ X = w') := Lib.hid (fun X hX => has_no _ _ _ X ((HI7.out.later hX).front (by rw [List.length_map]; omega)) hnot)
        have HW1 : Hid (∀ X, Below w7.heap.size w7 X → Calls Try.prog 19 #[.slice ar rs.length cr, .int .i64 p] X fun e w' => e = .returned (.bool (decide ((p : Int) * 2 ∈ rs))) ∧ X = w') := Lib.hid (fun X hX => hasWord_any _ rs p X ((Hr.out.later HM4.out.below).later (HB7.out.trans (hX.mono HB7.out.size))) hp256)
        have Hcame : Hid (¬ NoneYet os rs M p i) := Lib.hid (by
          rintro ⟨h1, h2⟩
          rcases hMc i _ hx with hr | ⟨j, z, hj, hz, hr⟩
          · have := hasRef_word (fun y hy => hS.refs y (List.mem_append_left _ hy)) hr
            rw [hp] at this; exact h1 this
          · have hzr := hrng z ((hMF z).1 (List.mem_of_getElem? hz))
            have := hasRef_word (fun y hy => hS.refs y (List.mem_append_right _ (List.mem_flatMap.2 ⟨_, List.mem_of_getElem? (obj_get hzr), hy⟩))) hr
            rw [hp] at this
            exact h2 j z hj hz this)
        have HW2 : Hid (∀ t : Nat, t < i → ∃ (z : Int) (q : Nat), M[t]? = some z ∧ (∀ X, Below w7.heap.size w7 X → X.cell? ⟨bL, oL + t, none⟩ = some (.int .i64 q)) ∧ ∀ X, Below w7.heap.size w7 X → Calls Try.prog 20 #[.slice aw ws.length cw, .int .i64 q] X fun e w' => ∃ r, e = .returned r ∧ IsW w' r (obj os z).2 ∧ Below X.heap.size X w') := Lib.hid (fun t ht => by
          obtain ⟨z, hz⟩ := get_some M t (by omega)
          have hzr := hrng z ((hMF z).1 (List.mem_of_getElem? hz))
          obtain ⟨zN, rfl⟩ : ∃ zN : Nat, z = zN := ⟨z.toNat, by omega⟩
          have hob := obj_get hzr
          rw [Int.toNat_natCast] at hob
          have hg := hS.laid.good hob
          have hpz := hpl t _ hz
          refine ⟨zN, place os zN, hz, fun X hX => ?_, fun X hX => ?_⟩
          · obtain ⟨b', o', c', hv, _, _, d, _⟩ := HI7.out.at hX hpz
            cases hv
            unfold plS at d
            rwa [Int.toNat_natCast] at d
          · have hX4 := (Hw.out.later HM4.out.below).later (HB7.out.trans (hX.mono HB7.out.size))
            refine (rFields_any _ ws (obj os zN).2 (place os zN) (obj os zN).2.length (obj os zN).1 X hX4 (hS.laid.head hob) hg.1 hg.2.1.symm rfl (fun j y hy => hS.laid.field hob hy) hws).mono ?_
            rintro e w' ⟨r, rfl, hM⟩
            exact ⟨r, rfl, isW_of_own (hM.ownW 0 rfl) (by omega) (fun y hy => Hw.out.all y (by rw [hS.laid.1]; exact List.mem_flatMap.2 ⟨_, List.mem_of_getElem? hob, List.mem_cons_of_mem _ hy⟩)), hM.below⟩)
        have HBr := Lib.hid hBr
        have HBd := Lib.hid hBr.drew
        have i1 : (i : Int) < m := by omega
        have i2 : i ≤ d3 := by omega
        have i3 : (i : Int) ≤ d3 := by omega
        have i4 : 0 < d3 := by omega
        have i5 : (0 : Int) ≤ (i : Int) := by omega
        clear hS hF hnO hMl hMn hMF hMc hx hrng hxF hxr hxl hp hpl hpi hst hnot dL zL hBr
        obtain ⟨u0, u1, u2⟩ := HU.out _ HBr.out
        go_wp2
        go_region_held3 (fun X => X.cell? ⟨bL, oL + i, none⟩ = some (.int .i64 p))
          (first | exact (HU.out _ HBd.out).2.2)
          (first
            | (go_at_call 18
               with_reducible refine (HH1.out _ HBd.out).mono ?_
               rintro e w10 ⟨rfl, rfl⟩)
            | (go_at_call 18
               with_reducible refine (HH2.out _ HBd.out).mono ?_
               rintro e w10 ⟨rfl, rfl⟩))
        have hB2 := HBd.out
        obtain ⟨W2, hW2⟩ : ∃ W2, wr.drew = W2 := ⟨_, rfl⟩
        rw [hW2] at hB2 ⊢
        have HB2 := Lib.hid hB2
        have HB2d := Lib.hid hB2.drew
        obtain ⟨v0, v1, v2⟩ := HU.out _ HB2.out
        clear u0 u1 u2 HH1 HH2 HBd HBr hW2 hB2
        go_wp2
        go_region_held3 (fun X => X.cell? ⟨w.heap.size, 1, none⟩ = some (.slice ar rs.length cr) ∧ X.cell? ⟨bL, oL + i, none⟩ = some (.int .i64 p))
          (first | exact ⟨(HU.out _ HB2d.out).2.1, (HU.out _ HB2d.out).2.2⟩)
          (first
            | (go_at_call 19
               with_reducible refine (HW1.out _ HB2d.out).mono ?_
               rintro e w10 ⟨rfl, rfl⟩))
        have hB3 := HB2d.out
        obtain ⟨W3, hW3⟩ : ∃ W3, W2.drew = W3 := ⟨_, rfl⟩
        rw [hW3] at hB3 ⊢
        have HB3 := Lib.hid hB3
        obtain ⟨bR, hbR⟩ : ∃ bR, decide ((p : Int) * 2 ∈ rs) = bR := ⟨_, rfl⟩
        rw [hbR]
        have HbR : Hid (bR = false → NoneYet os rs M p 0) := Lib.hid (fun h => ⟨by rw [h] at hbR; exact of_decide_eq_false hbR, fun t z ht => absurd ht (by omega)⟩)
        clear v0 v1 v2 HB2 HB2d hW3 hB3 HW1 hbR
        go_wp2
        go_loopw [9, 10] (fun s9 s10 wr => ∃ (j : Nat) (b : Bool), j ≤ i ∧ s9 = .bool b ∧ s10 = .int .i64 j ∧ (b = false → NoneYet os rs M p j) ∧ Below w7.heap.size w7 wr) (fun _ s10 _ => i - (intOf s10).toNat)
        case atStart => exact ⟨0, bR, Nat.zero_le _, rfl, rfl, HbR.out, HB3.out⟩
        case round =>
          clear HbR HB3
          obtain ⟨j, b, hj, rfl, rfl, hN, hB⟩ := hrel
          cases b with
          | true =>
            have HB := Lib.hid hB
            clear hN hB
            by_cases hji : j < i
            · go_wp2
              go_roundw
              case rel => exact ⟨i + 1, by omega, by go_num, HB.out⟩
              case measure => simp [intOf]; omega
            · go_wp2
              go_roundw
              case rel => exact ⟨i + 1, by omega, by go_num, HB.out⟩
              case measure => simp [intOf]; omega
          | false =>
            by_cases hji : j < i
            · obtain ⟨z, q, hz, hcq, hFq⟩ := HW2.out j hji
              have HN := Lib.hid (And.intro (hN rfl) hz)
              have Hcq := Lib.hid hcq
              have HFq := Lib.hid hFq
              have HBw := Lib.hid hB
              have HBd := Lib.hid hB.drew
              have j1 : (j : Int) < m := by omega
              have j2 : j < m := by omega
              have j3 : (0 : Int) ≤ (j : Int) := by omega
              clear hN hz hcq hFq hB
              obtain ⟨u0, u1, u2⟩ := HU.out _ HBw.out
              have u3 := Hcq.out _ HBw.out
              go_wp2
              go_region_held3 (fun X => X.cell? ⟨w.heap.size, 0, none⟩ = some (.slice aw ws.length cw) ∧ X.cell? ⟨bL, oL + j, none⟩ = some (.int .i64 q) ∧ X.cell? ⟨bL, oL + i, none⟩ = some (.int .i64 p))
                (first
                  | exact ⟨(HU.out _ HBd.out).1, Hcq.out _ HBd.out, (HU.out _ HBd.out).2.2⟩
                  | exact ⟨(HU.out _ hB10).1, Hcq.out _ hB10, (HU.out _ hB10).2.2⟩)
                (first
                  | (go_at_call 20
                     with_reducible refine (HFq.out _ HBd.out).mono ?_
                     rintro e w10 ⟨rv, rfl, hrv, hb10⟩
                     have hB10 := HBd.out.trans (hb10.mono HBd.out.size)
                     clear hb10)
                  | (go_at_call 19
                     with_reducible refine (hasWord_any rv (obj os z).2 p w10 hrv hp256).mono ?_
                     rintro e w11 ⟨rfl, rfl⟩))
              have HB10 := Lib.hid hB10
              obtain ⟨bR, hbR⟩ : ∃ bR, decide ((p : Int) * 2 ∈ (obj os z).2) = bR := ⟨_, rfl⟩
              rw [hbR]
              have HbR : Hid (bR = false → NoneYet os rs M p (j + 1)) := Lib.hid (fun h => ⟨HN.out.1.1, fun t y ht hy => by
                rcases Nat.lt_or_ge t j with h1 | h1
                · exact HN.out.1.2 t y h1 hy
                · obtain rfl : t = j := by omega
                  rw [HN.out.2] at hy
                  obtain rfl := Option.some.inj hy
                  rw [h] at hbR
                  exact of_decide_eq_false hbR⟩)
              clear hB10 hrv hbR u0 u1 u2 u3
              go_wp2
              go_roundw
              case rel => exact ⟨j + 1, bR, by omega, rfl, by go_num, HbR.out, HB10.out⟩
              case measure => simp [intOf]; omega
            · obtain rfl : j = i := by omega
              exact absurd (hN rfl) Hcame.out
      · obtain rfl : i = m := by omega
        have HB := Lib.hid (HM4.out.call (HB7.out.trans (hBr.mono HB7.out.size))).below
        clear hBr
        go_wp2
        go_ret
        exact ⟨rfl, HB.out⟩
  · have HU := Lib.hid (unsound_any _ _ ws rs w2 (Hw.out.later HM2.out.below) (Hr.out.later HM2.out.below) hn)
    clear hn
    go_wp2_with fail
    refine HU.out.mono ?_
    rintro e w3 ⟨rfl, hb3⟩
    have HB := Lib.hid (HM2.out.call hb3).below
    clear hb3
    go_wp2
    go_ret
    exact ⟨rfl, HB.out⟩
theorem visitOnce_law (W : World) (v0 : Value) (g0 : ∃ ws rs, IsArena W v0 ws rs) :
    Calls Try.prog 3 #[v0] W fun e w' => e = .returned (.bool true) ∧ Below W.heap.size W w' := by
  obtain ⟨ws, rs, vw, vr, rfl, hw, hr⟩ := g0
  exact visitOnce_walk vw vr ws rs W hw hr
end Go.Proofs.Ytgdodbdipbomfaa
