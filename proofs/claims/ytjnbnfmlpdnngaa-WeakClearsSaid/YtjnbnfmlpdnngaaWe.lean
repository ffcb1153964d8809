/- weak.list, weak.Kept, walked. -/
import Derived.Test.YtjnbnfmlpdnngaaWd
namespace Go.Proofs.Ytjnbnfmlpdnngaa
open Go.RowKit Go.Shelf

def listTo (K : List Bool) (k : Nat) : List Int := ((List.range k).filter fun i => K.getD i false).map fun (i : Nat) => (i : Int)
def listK (K : List Bool) : List Int := listTo K K.length
theorem listTo_succ (K : List Bool) (k : Nat) : listTo K (k + 1) = listTo K k ++ if K.getD k false then [(k : Int)] else [] := by
  unfold listTo
  rw [List.range_succ, List.filter_append, List.map_append]
  congr 1
  rw [List.filter_cons]
  cases K.getD k false <;> rfl
theorem listTo_len (K : List Bool) (k : Nat) : (listTo K k).length ≤ k := by
  unfold listTo
  rw [List.length_map]
  have := List.length_filter_le (fun i => K.getD i false) (List.range k)
  simpa using this
theorem mem_listK {K : List Bool} {x : Int} : x ∈ listK K ↔ kp K x = true := by
  unfold listK listTo kp
  simp only [List.mem_map, List.mem_filter, List.mem_range]
  constructor
  · rintro ⟨i, ⟨hi, hk⟩, rfl⟩
    rw [Int.toNat_natCast, hk]; simp
  · intro h
    rw [Bool.and_eq_true] at h
    have h0 : 0 ≤ x := by simpa using h.1
    refine ⟨x.toNat, ⟨?_, h.2⟩, by omega⟩
    apply Nat.lt_of_not_le
    intro hge
    rw [List.getD_eq_getElem?_getD, List.getElem?_eq_none hge] at h
    simp at h
theorem listK_in {K : List Bool} {x : Int} (h : x ∈ listK K) : 0 ≤ x ∧ x < (K.length : Int) := by
  unfold listK listTo at h
  simp only [List.mem_map, List.mem_filter, List.mem_range] at h
  obtain ⟨i, ⟨hi, _⟩, rfl⟩ := h
  omega
theorem listK_rising (K : List Bool) : (listK K).Pairwise (· < ·) := by
  unfold listK listTo
  rw [List.pairwise_map]
  have h : ((List.range K.length).filter fun i => K.getD i false).Pairwise (· < ·) := List.Pairwise.filter _ List.pairwise_lt_range
  exact h.imp (fun h => by omega)

set_option maxRecDepth 100000 in
set_option maxHeartbeats 1000000 in
theorem list_any (Bk : Nat) (vo vr vk : Value) (gK N : Nat) (K : List Bool) (w : World) (hk : IsKeeper w Bk vo vr vk (.slice (some ⟨gK, 0, none⟩) N N) K) (hl : K.length = N) (hN : N ≤ 24) :
    Calls Try.prog 45 #[.pointer (some ⟨Bk, 0, none⟩)] w fun e w' => ∃ vl, e = .returned vl ∧ Mem w.heap.size w w' [rowI 3 vl (listK K)] := by
  have c3 := hk.c3
  have zk := hk.lt
  have HK := Lib.hid hk.kept
  have Hl := Lib.hid hl
  have hM0 := (Mem.start w).nilI 3
  clear hk hl
  go_enter Try.func45, Try.ntmps45
  go_wp2
  go_loopw [3, 11] (fun v i wr => ∃ k : Nat, k ≤ N ∧ i = .int .i64 k ∧ Mem w.heap.size w wr [rowI 3 v (listTo K k)]) (fun _ i _ => N - (intOf i).toNat)
  case atStart => exact ⟨0, Nat.zero_le _, rfl, hM0⟩
  case round =>
    obtain ⟨k, hk, rfl, hM⟩ := hrel
    by_cases hlt : k < N
    · obtain ⟨b, hb⟩ := get_some K k (by rw [Hl.out]; exact hlt)
      obtain ⟨bz, oz, cz, hv, hbz, c4⟩ := (HK.out.later (hM.below)).at hb
      rw [Hl.out] at hv
      cases hv
      rw [Nat.zero_add] at c4
      have hs := listTo_succ K k
      rw [List.getD_eq_getElem?_getD, hb, Option.getD_some] at hs
      have HS := Lib.hid hs
      have hln := listTo_len K k
      have HM := Lib.hid hM
      clear hb hs hM
      cases b with
      | false =>
        go_wp2
        go_roundw
        case rel => exact ⟨k + 1, by omega, by go_num, HM.out.cast (by rw [HS.out]; simp)⟩
        case measure => simp [intOf]; omega
      | true =>
        go_wp2_with (at_builtin; refine Mem.wp_appI elemInts rfl (.tmp 17) (.tmp 19) rfl HM.out 0 rfl rfl _ (k : Int) _ _ rfl (by simp) (by omega) ?_; intro ad n1 cp w1 hn1 hM3 hs1 hk1 ha1)
        go_roundw
        case rel => exact ⟨k + 1, by omega, by go_num, hM3.cast (by rw [HS.out]; rfl)⟩
        case measure => simp [intOf]; omega
    · obtain rfl : k = N := by omega
      have HM := Lib.hid (hM.cast (L' := [rowI 3 _ (listK K)]) (by unfold listK; rw [Hl.out]))
      clear hM
      go_wp2
      go_ret
      exact ⟨_, rfl, HM.out⟩

def KindOf (g : G) (ks : List Int) : Prop := Good g ∧ ks.length = g.objs.length ∧ KindsOk ks
def KeptSays (g : G) (ks : List Int) (w w' : World) (e : Ending) : Prop := ∃ vl K, e = .returned (.tuple #[vl, .int .i64 0]) ∧ WeakS g ks K ∧ Mem w.heap.size w w' [rowI 3 vl (listK K)]
set_option maxRecDepth 100000 in
set_option maxHeartbeats 1000000 in
theorem kept_yes (g : G) (v u : Value) (ks : List Int) (w : World) (hg : IsGraph w v g) (hroom : RoomG w v g) (hu : IsInts w u ks) (hk : KindOf g ks) :
    Calls Try.prog 24 #[v, u] w fun e w' => KeptSays g ks w w' e := by
  have Hg := Lib.hid hg
  obtain ⟨vo, vr, rfl, ho, hr⟩ := hg
  obtain ⟨ao, co, rfl, hlo⟩ := ho.slice
  obtain ⟨ar, cr, rfl, hlr⟩ := hr.slice
  have hn := hk.1.objs
  have hM0 := (Mem.start w).alloc #[.slice ao g.objs.length co, .slice ar g.roots.length cr] 25
  have hro : RoomG (w.alloc (.cells #[.slice ao g.objs.length co, .slice ar g.roots.length cr] 25)) (.agg #[.slice ao g.objs.length co, .slice ar g.roots.length cr]) g := by
    obtain ⟨vo', vr', hv, hro⟩ := hroom
    obtain ⟨rfl, rfl⟩ : Value.slice ao g.objs.length co = vo' ∧ Value.slice ar g.roots.length cr = vr' := by simpa using hv
    refine ⟨_, _, rfl, ?_⟩
    intro k x b off n cap u hx hv hc
    obtain ⟨b', off', cap', u', hv', hb', _, _, _⟩ := ho.at hM0.below hx
    have hbb : b = b' := by rw [hv] at hv'; cases hv'; rfl
    subst hbb
    exact hro k x b off n cap u hx hv ((hM0.below.cell (p := ⟨_, _, none⟩) hb').symm.trans hc)
  have Ho := Lib.hid (open_yes g hk.1 _ u ks _ (Hg.out.later hM0.below) hro (hu.later hM0.below) hk.2.2 hk.2.1)
  clear ho hr hroom hu hro hk
  go_enter Try.func24, Try.ntmps24
  go_wp2_with fail
  refine Ho.out.mono ?_
  rintro e w1 ⟨Bk, gK, vo2, vr2, vk2, K, rfl, hW, hM1⟩
  have hKl := hW.inv.len
  have hkp : IsKeeper w1 Bk vo2 vr2 vk2 (.slice (some ⟨gK, 0, none⟩) g.objs.length g.objs.length) K := by
    refine ⟨(hM1.box 0 rfl).2.1, ?_, ?_, ?_, ?_, isBools_own hM1 1 rfl (by omega)⟩
    · have := hM1.cell 0 rfl 0; simpa using this
    · have := hM1.cell 0 rfl 1; simpa using this
    · have := hM1.cell 0 rfl 2; simpa using this
    · have := hM1.cell 0 rfl 3; simpa using this
  have HW := Lib.hid hW
  have Hkp := Lib.hid hkp
  have HKl := Lib.hid hKl
  have hM2 := hM0.call hM1.below
  have HM2 := Lib.hid hM2
  clear hW hkp hM1 hKl hM2
  go_wp2_with fail
  refine (list_any Bk _ _ _ gK g.objs.length K w1 Hkp.out HKl.out hn).mono ?_
  rintro e w2 ⟨vl, rfl, hM3⟩
  have hM4 := HM2.out.callMem hM3
  have HM4 := Lib.hid hM4
  obtain ⟨al, cl, hvl⟩ := hM4.intsSlice 0 rfl
  subst hvl
  clear hM3 hM4
  go_wp2
  go_ret2
  exact ⟨_, K, rfl, HW.out, HM4.out.pick0 [0] (by decide) rfl⟩

set_option maxRecDepth 100000 in
set_option maxHeartbeats 1000000 in
theorem open_no (g : G) (v u : Value) (ks : List Int) (w : World) (hg : IsGraph w v g) (hu : IsInts w u ks) (hk : ¬ KindOf g ks) :
    Calls Try.prog 44 #[v, u] w fun e w' => (∃ c : Int, (c == 0) = false ∧ (c != 0) = true ∧ e = .returned (.tuple #[.pointer none, .int .i64 c])) ∧ Below w.heap.size w w' := by
  have Hg := Lib.hid hg
  obtain ⟨vo, vr, rfl, ho, hr⟩ := hg
  obtain ⟨ao, co, rfl, hlo⟩ := ho.slice
  obtain ⟨ar, cr, rfl, hlr⟩ := hr.slice
  obtain ⟨au, cu, rfl, hlu⟩ := hu.slice
  have Hu := Lib.hid hu
  have Hk := Lib.hid hk
  clear ho hr hu hk
  have hM0 := (Mem.start w).alloc #[.slice ao g.objs.length co, .slice ar g.roots.length cr] 25
  by_cases hG : Good g
  · go_enter Try.func44, Try.ntmps44
    go_wp2_with fail
    refine (gcheck_yes _ g _ (Hg.out.later hM0.below) hG).mono ?_
    rintro e w1 ⟨rfl, hb1⟩
    have hM1 := hM0.call hb1
    obtain ⟨p0, p1⟩ := hM1.cells2 0 rfl
    have hbe := Lib.hid hM1.below
    by_cases hkl : ks.length = g.objs.length
    · have hko : ¬ KindsOk ks := fun h => Hk.out ⟨hG, hkl, h⟩
      have hex : ∃ x ∈ ks, x < 0 ∨ 2 < x := by
        apply Classical.byContradiction
        intro h
        exact hko (kindsOk_iff.2 h)
      have Hex := Lib.hid hex
      have Hu1 := Lib.hid (Hu.out.later hM1.below)
      have hz : ((ks.length : Int) == (g.objs.length : Int)) = true := by rw [hkl]; simp
      clear hko hex hM1 hkl
      go_wp2_with fail
      refine (kindsBad_any _ ks _ Hu1.out true ⟨fun _ => Hex.out, fun _ => rfl⟩).mono ?_
      rintro e w2 ⟨rfl, rfl⟩
      go_wp2
      go_ret2
      exact ⟨⟨5, rfl, rfl, rfl⟩, hbe.out⟩
    · have hz : ((ks.length : Int) == (g.objs.length : Int)) = false := by simp; omega
      have hz2 : ¬ (ks.length : Int) = (g.objs.length : Int) := by omega
      clear hM1
      go_wp2
      go_ret2
      exact ⟨⟨2, rfl, rfl, rfl⟩, hbe.out⟩
  · have HG := Lib.hid hG
    clear hG
    go_enter Try.func44, Try.ntmps44
    go_wp2_with fail
    refine (gcheck_no _ g _ (Hg.out.later hM0.below) HG.out).mono ?_
    rintro e w1 ⟨⟨c, rfl, hc⟩, hb1⟩
    have hM1 := hM0.call hb1
    have hc2 : (c != 0) = true := by simp [bne, hc]
    go_wp2
    go_ret2
    exact ⟨⟨c, hc, hc2, rfl⟩, hM1.below⟩
set_option maxRecDepth 100000 in
set_option maxHeartbeats 1000000 in
theorem kept_no (g : G) (v u : Value) (ks : List Int) (w : World) (hg : IsGraph w v g) (hu : IsInts w u ks) (hk : ¬ KindOf g ks) :
    Calls Try.prog 24 #[v, u] w fun e w' => (∃ c : Int, (c == 0) = false ∧ (c != 0) = true ∧ e = .returned (.tuple #[.slice none 0 0, .int .i64 c])) ∧ Below w.heap.size w w' := by
  have Hg := Lib.hid hg
  obtain ⟨vo, vr, rfl, ho, hr⟩ := hg
  obtain ⟨ao, co, rfl, hlo⟩ := ho.slice
  obtain ⟨ar, cr, rfl, hlr⟩ := hr.slice
  have hM0 := (Mem.start w).alloc #[.slice ao g.objs.length co, .slice ar g.roots.length cr] 25
  have Ho := Lib.hid (open_no g _ u ks _ (Hg.out.later hM0.below) (hu.later hM0.below) hk)
  clear ho hr hu hk
  go_enter Try.func24, Try.ntmps24
  go_wp2_with fail
  refine Ho.out.mono ?_
  rintro e w1 ⟨⟨c, hc, hc2, rfl⟩, hb1⟩
  have hM1 := hM0.call hb1
  go_wp2
  go_ret2
  exact ⟨⟨c, hc, hc2, rfl⟩, hM1.below⟩
end Go.Proofs.Ytjnbnfmlpdnngaa
