/- share.Share, walked. -/
import Derived.Test.YtdmgpiimacnapaaHg
import Derived.Test.YtdmgpiimacnapaaHq
namespace Go.Proofs.Ytdmgpiimacnapaa
open Go.RowKit Go.Shelf

set_option maxRecDepth 100000 in
set_option maxHeartbeats 1000000 in
theorem sturn_any (w : World) (vs : Value) (l : List V) (Bl : Nat) (ul : Value) (lot : List Int) (hl : IsVals w vs l) (hB : w.cell? ⟨Bl, 0, none⟩ = some ul) (hB2 : Bl < w.heap.size) (hlot : IsInts w ul lot) (hin : ∀ v ∈ l, v.ref = true → 0 ≤ v.n ∧ v.n < lot.length) (hlen : l.length ≤ 1000) :
    Calls Try.prog 39 #[vs, .pointer (some ⟨Bl, 0, none⟩)] w fun e w' => ∃ v', e = .returned v' ∧ Mem w.heap.size w w' [rowV 67 v' (l.map (turnV fun n => lot.getD n.toNat 0))] := by
  obtain ⟨a, cap, rfl, _⟩ := hl.slice
  obtain ⟨al, cl, rfl, _⟩ := hlot.slice
  have Hl := Lib.hid hl
  have Hlot := Lib.hid hlot
  have HB := Lib.hid hB
  have Hin := Lib.hid hin
  clear hl hlot hB hin
  have hM0 := (Mem.start w).nilV 67
  go_enter Try.func39, Try.ntmps39
  go_wp2
  go_loopw [4, 9] (fun v i wr => ∃ k : Nat, k ≤ l.length ∧ i = .int .i64 k ∧ Mem w.heap.size w wr [rowV 67 v ((l.take k).map (turnV fun n => lot.getD n.toNat 0))]) (fun _ i _ => l.length - (intOf i).toNat)
  case atStart => exact ⟨0, Nat.zero_le _, rfl, hM0⟩
  case round =>
    obtain ⟨k, hk, rfl, hM⟩ := hrel
    by_cases hlt : k < l.length
    · obtain ⟨y, hx⟩ := get_some _ _ hlt
      obtain ⟨bl, off, cap2, hv, hb, hn, c1, c2, hi⟩ := Hl.out.at hM.below hx
      cases hv
      have HS := Lib.hid (take_succ_some _ _ _ hx)
      have htl : ((l.take k).map (turnV fun n => lot.getD n.toNat 0)).length ≤ 1000000 := by rw [List.length_map]; have := take_len_le l k; omega
      have r0 : wr.cell? ⟨Bl, 0, none⟩ = some (.slice al lot.length cl) := (hM.below.cell (p := ⟨_, _, none⟩) hB2).trans HB.out
      have hB3 : Bl < wr.heap.size := Nat.lt_of_lt_of_le hB2 hM.below.size
      have HM := Lib.hid hM
      have Htl := Lib.hid htl
      have hmem := List.mem_of_getElem? hx
      obtain ⟨r, m⟩ := y
      cases r
      · clear hx hM htl hi hmem
        go_wp2_with (at_builtin; refine Mem.wp_appV elemVals rfl (.tmp 21) (.tmp 23) rfl (HM.out.alloc_ _) 0 rfl rfl _ ⟨false, m⟩ _ _ rfl (by simp) Htl.out ?_; intro ad n1 cp w1 hn1 hM3 hs1 hk1 ha1)
        go_roundw
        case rel => exact ⟨k + 1, by omega, by go_num, hM3.cast (by rw [HS.out]; simp [turnV])⟩
        case measure => simp [intOf]; omega
      · have hmr := Hin.out _ hmem rfl
        simp only at hmr
        obtain ⟨q, rfl⟩ : ∃ q : Nat, m = (q : Int) := ⟨m.toNat, by omega⟩
        have hq : q < lot.length := by omega
        obtain ⟨z, hz⟩ := get_some _ _ hq
        obtain ⟨bz, oz, cz, hv, hbz, hnz, d1, _⟩ := Hlot.out.at hM.below hz
        cases hv
        have Hz : Hid ((lot[q]?).getD 0 = z) := Lib.hid (by rw [hz]; rfl)
        clear hx hM htl hi hmem hmr hz
        go_wp2_with (at_builtin; refine Mem.wp_appV elemVals rfl (.tmp 21) (.tmp 23) rfl (HM.out.alloc_ _) 0 rfl rfl _ ⟨true, z⟩ _ _ rfl (by simp) Htl.out ?_; intro ad n1 cp w1 hn1 hM3 hs1 hk1 ha1)
        go_roundw
        case rel => exact ⟨k + 1, by omega, by go_num, hM3.cast (by rw [HS.out]; simp [turnV]; rw [Hz.out])⟩
        case measure => simp [intOf]; omega
    · obtain rfl : k = l.length := by omega
      rw [List.take_length] at hM
      go_wp2
      go_ret
      exact ⟨_, rfl, hM⟩

theorem lotAt_stop {m : Int × Int → Option Nat} {fs : List Int} {i f : Int} {k : Nat} (hk : fs[k]? = some f) (hf : (m (f, i)).isSome = false) (hno : ∀ (j : Nat) (f' : Int), j < k → fs[j]? = some f' → (m (f', i)).isSome = true) : lotAt m fs i = k := by
  unfold lotAt
  obtain ⟨hlt, rfl⟩ := List.getElem?_eq_some_iff.1 hk
  rw [List.findIdx_eq hlt]
  refine ⟨by simpa [Option.isSome_eq_false_iff] using hf, ?_⟩
  intro j hj
  have h1 := hno j (fs[j]'(by omega)) hj (List.getElem?_eq_getElem (by omega))
  simpa [Option.isSome_iff_ne_none] using h1
theorem lotAt_end {m : Int × Int → Option Nat} {fs : List Int} {i : Int} (hno : ∀ (j : Nat) (f' : Int), j < fs.length → fs[j]? = some f' → (m (f', i)).isSome = true) : lotAt m fs i = fs.length := by
  unfold lotAt
  rw [List.findIdx_eq_length]
  intro x hx
  obtain ⟨j, hj, rfl⟩ := List.getElem_of_mem hx
  have h1 := hno j _ hj (List.getElem?_eq_getElem hj)
  simpa [Option.isSome_iff_ne_none] using h1
def SeenTo (m : Int × Int → Option Nat) (fs : List Int) (i : Int) (k : Nat) : Prop := ∀ (j : Nat) (f' : Int), j < k → fs[j]? = some f' → (m (f', i)).isSome = true
theorem SeenTo.succ {m : Int × Int → Option Nat} {fs : List Int} {i f : Int} {k : Nat} (h : SeenTo m fs i k) (hk : fs[k]? = some f) (hf : (m (f, i)).isSome = true) : SeenTo m fs i (k + 1) := by
  intro j f' hj hf'
  rcases Nat.lt_or_ge j k with h1 | h1
  · exact h j f' h1 hf'
  · obtain rfl : j = k := by omega
    rw [hk] at hf'; cases hf'; exact hf

theorem mapF_get2 (m : Int × Int → Option Nat) (p : Int × Int) : ∃ z : Nat, (mapF m p).getD (.int .i64 0) = .int .i64 (z : Int) ∧ (mapF m p).isSome = (m p).isSome := by
  unfold mapF
  cases m p
  · exact ⟨0, rfl, rfl⟩
  · exact ⟨_, rfl, rfl⟩
theorem lots_ints {g : G} {m : Int × Int → Option Nat} (h : Apart g m) (n : Nat) (hn : n ≤ 24) : (∀ x ∈ (lots m n).1, 0 ≤ x ∧ x < 24) ∧ ∀ x ∈ (lots m n).2, 0 ≤ x ∧ x < 24 := by
  have hl := lots_ok h n
  constructor
  · intro x hx
    obtain ⟨k, hk⟩ := List.getElem?_of_mem hx
    have := hl.rng k x hk
    omega
  · intro x hx
    obtain ⟨i, hi⟩ := List.getElem?_of_mem hx
    have hin : i < n := by have := (List.getElem?_eq_some_iff.1 hi).1; rw [hl.len] at this; exact this
    obtain ⟨k, f, e1, e2, _⟩ := hl.at_ i hin
    rw [hi] at e1
    cases e1
    have := (List.getElem?_eq_some_iff.1 e2).1
    have := hl.few
    omega
theorem Mem.lotI {B : Nat} {w0 w : World} {L : List Ent} (h : Mem B w0 w L) (k : Nat) {e : TypeId} {v : Value} {l : List Int} (hk : L[k]? = some (rowI e v l)) (hl : l.length ≤ 24) (hm : ∀ x ∈ l, 0 ≤ x ∧ x < 24) : IsInts w v l :=
  isInts_of_own (h.ownI k hk) (by omega) (fun x hx => by have := hm x hx; exact ⟨by omega, by omega⟩)

def ShareSays (g : G) (w w' : World) (e : Ending) : Prop := ∃ (v' vl : Value) (m : Int × Int → Option Nat), e = .returned (.tuple #[v', vl, .int .i64 0]) ∧ Apart g m ∧ IsGraph w' v' (quo g (lots m g.objs.length)) ∧ IsInts w' vl (lots m g.objs.length).2 ∧ Below w.heap.size w w'
set_option maxRecDepth 100000 in
set_option maxHeartbeats 4000000 in
theorem share_any (g : G) (hG : Good g) (v : Value) (w : World) (hg : IsGraph w v g) :
    Calls Try.prog 16 #[v] w fun e w' => ShareSays g w w' e := by
  have Hg := Lib.hid hg
  obtain ⟨vo, vr, rfl, ho, hro⟩ := hg
  obtain ⟨ao, co, rfl, hlo⟩ := ho.slice
  obtain ⟨ar, cr, rfl, hlr⟩ := hro.slice
  have Ho := Lib.hid ho
  have Hro := Lib.hid hro
  clear ho hro
  have hn := hG.objs
  have hM0 := (((Mem.start w).alloc #[.slice ao g.objs.length co, .slice ar g.roots.length cr] 25).allocAt (w.heap.size + 1) (by simp) #[.slice none 0 0, .slice none 0 0] 25)
  go_enter Try.func16, Try.ntmps16
  go_wp2_with fail
  refine (gcheck_yes _ g _ (Hg.out.later hM0.below) hG).mono ?_
  rintro e w1 ⟨rfl, hb1⟩
  have hM1 := hM0.call hb1
  obtain ⟨p0, p1⟩ := hM1.cells2 1 rfl
  go_wp2_with fail
  refine (apart_any g hG _ _ (Hg.out.later hM1.below)).mono ?_
  rintro e w2 ⟨bm, cnt, m, rfl, hA, _, hM2⟩
  have hM3 : Mem w.heap.size w (w2.alloc (.cells #[.slice none 0 0] 27)) [ebox w2.heap.size #[.slice none 0 0] 27, rowI 3 (.slice none 0 0) (lots m 0).2, rowI 3 (.slice none 0 0) (lots m 0).1, gmap mapPair bm cnt (mapF m), ebox (w.heap.size + 1) #[.slice none 0 0, .slice none 0 0] 25, ebox w.heap.size #[.slice ao g.objs.length co, .slice ar g.roots.length cr] 25] :=
    ((((hM1.callMem hM2).nilI 3).nilI 3).alloc #[.slice none 0 0] 27).pick0 [0, 1, 2, 3, 4, 5] (by decide) rfl
  have HA := Lib.hid hA
  have q0 : w2.cell? ⟨w.heap.size, 0, none⟩ = some (.slice ao g.objs.length co) := by have := (hM1.callMem hM2).cell 2 rfl 0; simpa using this
  have z0 : w.heap.size < w2.heap.size := ((hM1.callMem hM2).box 2 rfl).2.1
  have HM3 := Lib.hid hM3
  clear hA hM1 hM2 hM3 hM0 hb1 p0 p1
  go_wp2
  go_loopw [7, 30] (fun s7 iv wr => ∃ (i : Nat) (vl : Value), i ≤ g.objs.length ∧ iv = .int .i64 i ∧ Mem w.heap.size w wr [ebox w2.heap.size #[vl] 27, rowI 3 vl (lots m i).2, rowI 3 s7 (lots m i).1, gmap mapPair bm cnt (mapF m), ebox (w.heap.size + 1) #[.slice none 0 0, .slice none 0 0] 25, ebox w.heap.size #[.slice ao g.objs.length co, .slice ar g.roots.length cr] 25])
    (fun _ iv _ => g.objs.length - (intOf iv).toNat)
  case atStart => exact ⟨0, _, Nat.zero_le _, rfl, HM3.out⟩
  case round =>
    clear HM3 q0
    obtain ⟨i, vl, hi, rfl, hM⟩ := hrel
    by_cases hlt : i < g.objs.length
    · have hL := lots_ok HA.out i
      have hIn := lots_ints HA.out i (by omega)
      obtain ⟨fs, hfs⟩ : ∃ fs, (lots m i).1 = fs := ⟨_, rfl⟩
      obtain ⟨lt, hlt2⟩ : ∃ lt, (lots m i).2 = lt := ⟨_, rfl⟩
      have hstep : lots m (i + 1) = (if lotAt m fs i = fs.length then fs ++ [(i : Int)] else fs, lt ++ [(lotAt m fs i : Int)]) := by simp only [lots, hfs, hlt2]
      rw [hfs, hlt2] at hM
      have hflen : fs.length ≤ 24 := by have := hL.few; rw [hfs] at this; omega
      have hllen : lt.length ≤ 24 := by have := hL.len; rw [hlt2] at this; omega
      rw [hfs] at hIn
      obtain ⟨af, cf, hvf⟩ := hM.intsSlice 2 rfl
      subst hvf
      obtain ⟨av, cv, hvl⟩ := hM.intsSlice 1 rfl
      subst hvl
      have Hstep := Lib.hid hstep
      have hFI := hM.lotI 2 rfl hflen hIn.1
      have HFI := Lib.hid hFI
      have HIn := Lib.hid hIn.1
      have Hmap : Hid ((gmap mapPair bm cnt (mapF m)).ok 0 wr) := Lib.hid (Ent.ok_weak (hM.get 3 rfl) (Nat.zero_le _))
      have p0 : wr.cell? ⟨w2.heap.size, 0, none⟩ = some (.slice av lt.length cv) := by have := hM.cell 0 rfl 0; simpa using this
      have HM := Lib.hid hM
      clear hL hIn hfs hlt2 hstep hFI hM
      go_wp2
      go_loop [10, 37] (fun s10 kv => ∃ k : Nat, k ≤ fs.length ∧ kv = .int .i64 k ∧ s10 = .int .i64 (fs.length : Int) ∧ SeenTo m fs i k) (fun _ kv => fs.length - (intOf kv).toNat)
      case atStart => exact ⟨0, Nat.zero_le _, rfl, rfl, fun _ _ h => absurd h (Nat.not_lt_zero _)⟩
      case round =>
        obtain ⟨k, hk, rfl, rfl, hS⟩ := hrel
        have HSn := Lib.hid hS
        clear hS
        by_cases hlk : k < fs.length
        · obtain ⟨f, hf⟩ := get_some _ _ hlk
          obtain ⟨bf, of, cf2, hv, hbf, _, c1, hf64⟩ := HFI.out.at (Below.refl _ _) hf
          cases hv
          have hl := (gmap_look Hmap.out (x := (f, (i : Int))) ⟨hf64, ⟨by simp only; omega, by simp only; omega⟩⟩).2
          obtain ⟨z, hz1, hz2⟩ := mapF_get2 m (f, (i : Int))
          rw [hz2] at hl
          simp only [mapPair, pairV] at hl
          rw [hz1] at hl
          obtain ⟨is, his⟩ : ∃ is, (m (f, (i : Int))).isSome = is := ⟨_, rfl⟩
          rw [his] at hl
          have Hf := Lib.hid hf
          have His := Lib.hid his
          clear hf hz1 hz2 his
          cases is with
          | true =>
            have HS2 := Lib.hid (HSn.out.succ Hf.out His.out)
            go_wp2
            go_round
            case rel => exact ⟨k + 1, by omega, by go_num, rfl, HS2.out⟩
            case measure => simp [intOf]; omega
          | false =>
            have hat := lotAt_stop Hf.out His.out HSn.out
            have hst2 := Hstep.out
            rw [hat, if_neg (by omega)] at hst2
            have HST := Lib.hid hst2
            have hz : ((k : Int) == (fs.length : Int)) = false := by simp; omega
            clear hat hst2
            go_wp2_with (first
            | (at_builtin; refine Mem.wp_appI elemInts rfl (.tmp 62) (.tmp 64) rfl HM.out 1 rfl rfl _ (k : Int) _ _ rfl (by simp) (by omega) ?_; intro ad5 n5 cp5 w5 hn5 hM5 hs5 hk5 ha5
               have u0 : w5.cell? ⟨w2.heap.size, 0, none⟩ = some (.slice av lt.length cv) := by have := hM5.cell 0 rfl 0; simpa using this
               have u1 : w5.frozen? ⟨w2.heap.size, 0, none⟩ = false := hM5.free 0 rfl 0))
            go_roundw
            case rel => exact ⟨i + 1, _, by omega, by go_num, (hM5.setBox 0 rfl 0 (.slice ad5 n5 cp5)).cast (by rw [HST.out]; rfl)⟩
            case measure => simp [intOf]; omega
        · obtain rfl : k = fs.length := by omega
          have hat := lotAt_end HSn.out
          have hst2 := Hstep.out
          rw [hat, if_pos rfl] at hst2
          have HST := Lib.hid hst2
          clear hat hst2
          go_wp2_with (first
            | (at_builtin; refine Mem.wp_appI elemInts rfl (.tmp 58) (.tmp 60) rfl HM.out 2 rfl rfl _ (i : Int) _ _ rfl (by simp) (by omega) ?_; intro ad4 n4 cp4 w4 hn4 hM4 hs4 hk4 ha4
               have v0 : w4.cell? ⟨w2.heap.size, 0, none⟩ = some (.slice av lt.length cv) := by have := hM4.cell 0 rfl 0; simpa using this)
            | (at_builtin; refine Mem.wp_appI elemInts rfl (.tmp 62) (.tmp 64) rfl hM4 1 rfl rfl _ (fs.length : Int) _ _ rfl (by simp) (by omega) ?_; intro ad5 n5 cp5 w5 hn5 hM5 hs5 hk5 ha5
               have u0 : w5.cell? ⟨w2.heap.size, 0, none⟩ = some (.slice av lt.length cv) := by have := hM5.cell 0 rfl 0; simpa using this
               have u1 : w5.frozen? ⟨w2.heap.size, 0, none⟩ = false := hM5.free 0 rfl 0))
          go_roundw
          case rel => exact ⟨i + 1, _, by omega, by go_num, (hM5.setBox 0 rfl 0 (.slice ad5 n5 cp5)).cast (by rw [HST.out]; rfl)⟩
          case measure => simp [intOf]; omega
    · obtain rfl : i = g.objs.length := by omega
      have hL := lots_ok HA.out g.objs.length
      have hIn := lots_ints HA.out g.objs.length (by omega)
      obtain ⟨fs, hfs⟩ : ∃ fs, (lots m g.objs.length).1 = fs := ⟨_, rfl⟩
      obtain ⟨lt, hlt2⟩ : ∃ lt, (lots m g.objs.length).2 = lt := ⟨_, rfl⟩
      have hls : lots m g.objs.length = (fs, lt) := by rw [← hfs, ← hlt2]
      rw [hfs, hlt2] at hM hIn
      have hflen : fs.length ≤ 24 := by have := hL.few; rw [hfs] at this; omega
      have hltlen : lt.length = g.objs.length := by have := hL.len; rw [hlt2] at this; exact this
      have hfr : ∀ (k : Nat) (f : Int), fs[k]? = some f → 0 ≤ f ∧ f < g.objs.length := by intro k f hf; exact hL.rng k f (by rw [hfs]; exact hf)
      obtain ⟨af, cf, hvf⟩ := hM.intsSlice 2 rfl
      subst hvf
      obtain ⟨av, cv, hvl⟩ := hM.intsSlice 1 rfl
      subst hvl
      have hFI := hM.lotI 2 rfl hflen hIn.1
      have hLI := hM.lotI 1 rfl (by omega) hIn.2
      have HFI := Lib.hid hFI
      have HLI := Lib.hid hLI
      have HIn := Lib.hid hIn
      have Hls := Lib.hid hls
      have Hfr := Lib.hid hfr
      have Hltlen := Lib.hid hltlen
      obtain ⟨p0, p1⟩ := hM.cells2 5 rfl
      have p2 : wr.cell? ⟨w2.heap.size, 0, none⟩ = some (.slice av lt.length cv) := by have := hM.cell 0 rfl 0; simpa using this
      have zl : w2.heap.size < wr.heap.size := (hM.box 0 rfl).2.1
      have HM := Lib.hid hM
      have hvok : ∀ v ∈ allV g, v.ref = true → 0 ≤ v.n ∧ v.n < lt.length := by
        intro v hv hr
        have := ref_in hG hv hr
        rw [hltlen]; exact this
      have Hvok := Lib.hid hvok
      clear hL hIn hfs hlt2 hls hfr hltlen hFI hLI hM hvok
      go_wp2_with fail
      refine (sturn_any wr _ g.roots _ _ lt (Hro.out.later HM.out.below) p2 zl HLI.out (fun v hv => Hvok.out v (List.mem_append_left _ hv)) (by have := hG.roots; omega)).mono ?_
      rintro e w3 ⟨vR, rfl, hM1⟩
      obtain ⟨aR, nR, cR, rfl⟩ := hM1.isSlice 0 rfl
      have hM2 := HM.out.callMem hM1
      obtain ⟨q, hq⟩ : ∃ q : Int → Int, (fun n : Int => lt.getD n.toNat 0) = q := ⟨_, rfl⟩
      rw [hq] at hM2
      have hM3 := hM2.alloc #[.slice none 0 0, .slice aR nR cR] 25
      have hM4 : Mem w.heap.size w (w3.alloc (.cells #[.slice none 0 0, .slice aR nR cR] 25)) ([ebox w3.heap.size #[.slice none 0 0, .slice aR nR cR] 25, erow 52 1 (.slice none 0 0) 0 [], rowV 67 (.slice aR nR cR) (g.roots.map (turnV q)), ebox w2.heap.size #[.slice av lt.length cv] 27, rowI 3 (.slice av lt.length cv) lt, rowI 3 (.slice af fs.length cf) fs, ebox (w.heap.size + 1) #[.slice none 0 0, .slice none 0 0] 25, ebox w.heap.size #[.slice ao g.objs.length co, .slice ar g.roots.length cr] 25] ++ rowsE []) :=
        (hM3.nil 52 1).pick0 [1, 0, 2, 3, 4, 5, 7, 8] (by decide) rfl
      have Hq := Lib.hid hq
      clear hM1 hM2 hM3 hq
      have HM4 := Lib.hid hM4
      clear hM4
      go_wp2
      go_loopw [75] (fun kv wr => ∃ (k : Nat) (vO : Value) (rows : Rws), k ≤ fs.length ∧ kv = .int .i64 k ∧ rows.map (·.2) = (fs.take k).map (fun x => (fieldsAt g x).map (turnV q)) ∧
        Mem w.heap.size w wr ([ebox w3.heap.size #[vO, .slice aR nR cR] 25, erow 52 1 vO k (rows.map (·.1)), rowV 67 (.slice aR nR cR) (g.roots.map (turnV q)), ebox w2.heap.size #[.slice av lt.length cv] 27, rowI 3 (.slice av lt.length cv) lt, rowI 3 (.slice af fs.length cf) fs, ebox (w.heap.size + 1) #[.slice none 0 0, .slice none 0 0] 25, ebox w.heap.size #[.slice ao g.objs.length co, .slice ar g.roots.length cr] 25] ++ rowsE rows))
        (fun kv _ => fs.length - (intOf kv).toNat)
      case atStart => exact ⟨0, _, [], Nat.zero_le _, rfl, rfl, HM4.out⟩
      case round =>
        clear HM4
        obtain ⟨k, vO, rows, hk, rfl, hrows, hM⟩ := hrel
        by_cases hlt : k < fs.length
        · obtain ⟨x, hx⟩ := get_some _ _ hlt
          obtain ⟨hx0, hx1⟩ := Hfr.out k x hx
          have hFIk := hM.lotI 5 rfl hflen HIn.out.1
          obtain ⟨bx, ox, cap2, hv, hb, hn2, c1, hxi⟩ := hFIk.at (Below.refl _ _) hx
          cases hv
          obtain ⟨i, rfl⟩ : ∃ i : Nat, x = (i : Int) := ⟨x.toNat, by omega⟩
          have hi : i < g.objs.length := by omega
          obtain ⟨ob, hob⟩ := get_some _ _ hi
          obtain ⟨bo, oo, cap3, uo, hv2, hbo, hn3, c2, huo⟩ := Ho.out.at hM.below hob
          cases hv2
          obtain ⟨af2, cf2, rfl, hlf⟩ := huo.slice
          have s0 : wr.cell? ⟨w3.heap.size, 0, none⟩ = some vO := by have := hM.cell 0 rfl 0; simpa using this
          have s1 : wr.cell? ⟨w.heap.size, 0, none⟩ = some (.slice (some ⟨bo, oo, none⟩) g.objs.length co) := by have := hM.cell 7 rfl 0; simpa using this
          have s2 : wr.cell? ⟨w2.heap.size, 0, none⟩ = some (.slice av lt.length cv) := by have := hM.cell 3 rfl 0; simpa using this
          have s3 : w2.heap.size < wr.heap.size := (hM.box 3 rfl).2.1
          have Huo := Lib.hid (huo.later hM.below)
          have HLk := Lib.hid (hM.lotI 4 rfl (by rw [Hltlen.out]; omega) HIn.out.2)
          have HM := Lib.hid hM
          have Hob := Lib.hid hob
          have Hx := Lib.hid hx
          have Hrows := Lib.hid hrows
          have hfl := hG.fields ob (List.mem_of_getElem? hob)
          have Hvo : Hid (∀ v ∈ ob, v.ref = true → 0 ≤ v.n ∧ v.n < lt.length) := Lib.hid (fun v hv => Hvok.out v (List.mem_append_right _ (List.mem_flatten.2 ⟨ob, List.mem_of_getElem? hob, hv⟩)))
          clear hM hob hx hrows huo hFIk
          have hk1000 : k ≤ 1000000 := by omega
          have hgo : ob.length ≤ 1000 := by omega
          go_wp2
          go_region_law (first
            | (refine Mem.step_app1 elemObjs rfl (.tmp 80) (.tmp 90) rfl hM5 1 rfl rfl _ #[.slice aV nV cV] _ _ rfl rfl rfl rfl (by decide) hk1000 ?_
               intro ad cp w6 hM6 hs6 hk6
               have u0 : w6.cell? ⟨w3.heap.size, 0, none⟩ = some vO := by have := hM6.cell 0 rfl 0; simpa using this
               have u1 : w6.frozen? ⟨w3.heap.size, 0, none⟩ = false := hM6.free 0 rfl 0)
            | (go_simp
               refine (sturn_any wr.drew _ ob _ _ lt (Huo.out.later (Below.refl _ _).drew) s2 s3 (HLk.out.later (Below.refl _ _).drew) Hvo.out hgo).mono ?_
               rintro e w4 ⟨vv, rfl, hM4⟩
               obtain ⟨aV, nV, cV, rfl⟩ := hM4.isSlice 0 rfl
               rw [Hq.out] at hM4
               have hM5 := (HM.out.drew.callMem hM4).rowsSnoc
               have t0 : w4.cell? ⟨w3.heap.size, 0, none⟩ = some vO := by have := hM5.cell 0 rfl 0; simpa using this
               have t1 : w3.heap.size < w4.heap.size := (hM5.box 0 rfl).2.1))
          all_goals
            go_wp2
            go_roundw
            case rel =>
              refine ⟨k + 1, .slice ad (k + 1) cp, rows ++ [(.slice aV nV cV, ob.map (turnV q))], by omega, by go_num, ?_, ?_⟩
              · rw [take_succ_some _ _ _ Hx.out, List.map_append, List.map_append, Hrows.out]
                simp only [List.map_cons, List.map_nil]
                congr 2
                unfold fieldsAt
                rw [Int.toNat_natCast, List.getD_eq_getElem?_getD, Hob.out]; rfl
              · exact (hM6.setBox 0 rfl 0 (.slice ad (k + 1) cp)).cast (by simp)
            case measure => simp [intOf]; omega
        · obtain rfl : k = fs.length := by omega
          rw [List.take_length] at hrows
          obtain ⟨aO, nO, cO, rfl⟩ := hM.isSlice 1 rfl
          have s0 : wr.cell? ⟨w3.heap.size, 0, none⟩ = some (.slice aO nO cO) := by have := hM.cell 0 rfl 0; simpa using this
          have s1 : wr.cell? ⟨w3.heap.size, 1, none⟩ = some (.slice aR nR cR) := by have := hM.cell 0 rfl 1; simpa using this
          obtain ⟨s2, s3⟩ := hM.cells2 6 rfl
          have s4 : wr.frozen? ⟨w.heap.size + 1, 0, none⟩ = false := hM.free 6 rfl 0
          have s5 : wr.frozen? ⟨w.heap.size + 1, 1, none⟩ = false := hM.free 6 rfl 1
          have s6 : w.heap.size + 1 < wr.heap.size := (hM.box 6 rfl).2.1
          have s7 : wr.cell? ⟨w2.heap.size, 0, none⟩ = some (.slice av lt.length cv) := by have := hM.cell 3 rfl 0; simpa using this
          have s8 : (wr.setCell ⟨w.heap.size + 1, 0, none⟩ (.slice aO nO cO)).cell? ⟨w2.heap.size, 0, none⟩ = some (.slice av lt.length cv) := by have := (hM.setBox 6 rfl 0 (.slice aO nO cO)).cell 3 rfl 0; simpa using this
          have s9 : ((wr.setCell ⟨w.heap.size + 1, 0, none⟩ (.slice aO nO cO)).setCell ⟨w.heap.size + 1, 1, none⟩ (.slice aR nR cR)).cell? ⟨w2.heap.size, 0, none⟩ = some (.slice av lt.length cv) := by have := ((hM.setBox 6 rfl 0 (.slice aO nO cO)).setBox 6 rfl 1 (.slice aR nR cR)).cell 3 rfl 0; simpa using this
          have hM7 := ((hM.setBox 6 rfl 0 (.slice aO nO cO)).setBox 6 rfl 1 (.slice aR nR cR)).drew
          obtain ⟨r0, r1⟩ := hM7.cells2 (x := .slice aO nO cO) (y := .slice aR nR cR) 6 rfl
          have hfin : ShareSays g w (((wr.setCell ⟨w.heap.size + 1, 0, none⟩ (.slice aO nO cO)).setCell ⟨w.heap.size + 1, 1, none⟩ (.slice aR nR cR)).drew) (.returned (.tuple #[.agg #[.slice aO nO cO, .slice aR nR cR], .slice av lt.length cv, .int .i64 0])) := by
            have hgr : quo g (lots m g.objs.length) = ⟨rows.map (·.2), g.roots.map (turnV q)⟩ := by
              rw [Hls.out, hrows, ← Hq.out]; rfl
            have hG2 := quo_good hG (lots_ok HA.out g.objs.length)
            have hM8 : Mem w.heap.size w _ (rowsE rows) := hM7.drop (List.sublist_append_right [_, _, _, _, _, _, _, _] _)
            refine ⟨_, _, m, rfl, HA.out, ?_, ?_, hM7.below⟩
            · rw [hgr] at hG2 ⊢
              have hlen : rows.length = fs.length := by have := congrArg List.length hrows; simpa using this
              have hval : ∀ v ∈ allV ⟨rows.map (·.2), g.roots.map (turnV q)⟩, i64ok v.n := by
                intro v hv
                have h1 := hG2.vals v hv
                have h2 : rows.length ≤ 24 := by omega
                unfold badC at h1
                split at h1
                · split at h1
                  · cases h1
                  · rename_i h3; simp at h3; exact ⟨by omega, by omega⟩
                · split at h1
                  · cases h1
                  · exact ⟨by omega, by omega⟩
              refine ⟨_, _, rfl, ?_, ?_⟩
              · refine isObjs_of_own (hM7.row 1 rfl) (by omega) (fun r hr => hM8.isValsM (e := 67) (List.mem_map.2 ⟨r, hr, rfl⟩) ?_ ?_)
                · have := hG2.fields r.2 (List.mem_map.2 ⟨r, hr, rfl⟩); omega
                · intro y hy
                  exact hval y (List.mem_append_right _ (List.mem_flatten.2 ⟨r.2, List.mem_map.2 ⟨r, hr, rfl⟩, hy⟩))
              · refine hM7.isVals 2 rfl (by rw [List.length_map]; have := hG.roots; omega) (fun y hy => hval y (List.mem_append_left _ hy))
            · rw [Hls.out]
              exact hM7.lotI 4 rfl (by rw [Hltlen.out]; omega) HIn.out.2
          have HFin := Lib.hid hfin
          clear hM hrows hM7 hfin
          go_wp2
          go_region_law (fail)
          all_goals
            go_wp2
            refine bodyPost_ret (v := .tuple #[.agg #[.slice aO nO cO, .slice aR nR cR], .slice av lt.length cv, .int .i64 0]) (by simp [results, Try.results16, go_sem, r0, r1]) rfl HFin.out
end Go.Proofs.Ytdmgpiimacnapaa
