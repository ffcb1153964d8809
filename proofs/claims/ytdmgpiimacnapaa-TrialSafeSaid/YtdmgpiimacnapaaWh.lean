/- WeakLeast, walked. -/
import Derived.Test.YtdmgpiimacnapaaWf
import Derived.Test.YtdmgpiimacnapaaWg
import Derived.Test.YtdmgpiimacnapaaMa
namespace Go.Proofs.Ytdmgpiimacnapaa
open Go.RowKit Go.Shelf

theorem listK_isInts {B : Nat} {w0 w : World} {L : List Ent} (h : Mem B w0 w L) (k : Nat) {e : TypeId} {v : Value} {K : List Bool} (hk : L[k]? = some (rowI e v (listK K))) (hK : K.length ≤ 24) : IsInts w v (listK K) :=
  isInts_of_own (h.ownI k hk) (by have := listTo_len K K.length; unfold listK; omega) (fun x hx => by have := listK_in hx; exact ⟨by omega, by omega⟩)
theorem listK_Rising (K : List Bool) : Rising (listK K) := by
  intro k x y hx hy
  obtain ⟨h1, rfl⟩ := List.getElem?_eq_some_iff.1 hx
  obtain ⟨h2, rfl⟩ := List.getElem?_eq_some_iff.1 hy
  exact List.pairwise_iff_getElem.1 (listK_rising K) k (k + 1) h1 h2 (by omega)
theorem WeakS.keeping {g : G} {ks : List Int} {K : List Bool} (h : WeakS g ks K) : KeepingL g ks (listK K) := by
  refine ⟨fun v hv => inB_iff.2 (fun hr => mem_listK.2 (h.inv.root v hv hr)), ?_⟩
  intro i hi v hv
  refine inB_iff.2 (fun hr => mem_listK.2 (h.keeps i v (mem_listK.1 hi) (hv.mono fun j hj => mem_listK.1 hj) hr))
theorem WeakS.inside {g : G} {ks : List Int} {K : List Bool} (h : WeakS g ks K) {s : List Int} (hs : KeepingL g ks s) : ∀ x ∈ listK K, x ∈ s := by
  intro x hx
  refine h.inv.least (fun j => j ∈ s) ?_ (fun v hv => inB_iff.1 (hs.1 v hv)) x (mem_listK.1 hx)
  intro i v hi hv
  exact inB_iff.1 (hs.2 i hi v hv)
/-- What is kept, as it reads later. -/
def KeptReads (g : G) (ks : List Int) (w w' : World) (e : Ending) : Prop := ∃ vl K, e = .returned (.tuple #[vl, .int .i64 0]) ∧ WeakS g ks K ∧ IsInts w' vl (listK K) ∧ Below w.heap.size w w'
theorem kept_reads (g : G) (v u : Value) (ks : List Int) (w : World) (hg : IsGraph w v g) (hroom : RoomG w v g) (hu : IsInts w u ks) (hk : KindOf g ks) :
    Calls Try.prog 21 #[v, u] w fun e w' => KeptReads g ks w w' e := by
  have hn := hk.1.objs
  refine (kept_yes g v u ks w hg hroom hu hk).mono ?_
  rintro e w1 ⟨vl, K, rfl, hW, hM⟩
  exact ⟨vl, K, rfl, hW, listK_isInts hM 0 rfl (by rw [hW.inv.len]; exact hn), hM.below⟩
theorem RoomG.later {w w' : World} {v : Value} {g : G} (h : RoomG w v g) (hg : IsGraph w v g) (hb : Below w.heap.size w w') : RoomG w' v g := by
  obtain ⟨vo, vr, rfl, ho, hr⟩ := hg
  obtain ⟨vo', vr', hv, hro⟩ := h
  obtain ⟨rfl, rfl⟩ : vo = vo' ∧ vr = vr' := by simpa using hv
  refine ⟨_, _, rfl, ?_⟩
  intro k x b off n cap u hx hv hc
  obtain ⟨b', off', cap', u', hv', hb', _, _, _⟩ := ho.at hb hx
  have hbb : b = b' := by rw [hv] at hv'; cases hv'; rfl
  subst hbb
  exact hro k x b off n cap u hx hv ((hb.cell (p := ⟨_, _, none⟩) hb').symm.trans hc)

set_option maxRecDepth 100000 in
set_option maxHeartbeats 4000000 in
theorem wleast_good (g : G) (v u : Value) (ks : List Int) (mask : Int) (w : World) (hg : IsGraph w v g) (hroom : RoomG w v g) (hu : IsInts w u ks) (hk : KindOf g ks) :
    Calls Try.prog 4 #[v, u, .int .u32 mask] w fun e w' => e = .returned (.bool true) ∧ Below w.heap.size w w' := by
  have Hg := Lib.hid hg
  obtain ⟨vo, vr, rfl, ho, hr⟩ := hg
  obtain ⟨ao, co, rfl, hlo⟩ := ho.slice
  obtain ⟨ar, cr, rfl, hlr⟩ := hr.slice
  obtain ⟨au, cu, rfl, hlu⟩ := hu.slice
  have hM0 := (Mem.start w).alloc #[.slice ao g.objs.length co, .slice ar g.roots.length cr] 25
  have Hro := Lib.hid (hroom.later Hg.out hM0.below)
  have Hu := Lib.hid hu
  have Hk := Lib.hid hk
  have hn := hk.1.objs
  clear ho hr hu hk hroom
  go_enter Try.func4, Try.ntmps4
  go_wp2_with fail
  refine (kept_reads g _ _ ks _ (Hg.out.later hM0.below) Hro.out (Hu.out.later hM0.below) Hk.out).mono ?_
  rintro e w1 ⟨vl, K, rfl, hW, hl, hb1⟩
  obtain ⟨al, cl, rfl, _⟩ := hl.slice
  have hM1 := hM0.call hb1
  obtain ⟨p0, p1⟩ := hM1.cells2 0 rfl
  have HW := Lib.hid hW
  have Hl := Lib.hid hl
  clear hW hl
  go_wp2_with fail
  refine (good_yes _ g _ (Hg.out.later hM1.below) Hk.out.1).mono ?_
  rintro e w2 ⟨rfl, hb2⟩
  have hM2 := hM1.call hb2
  obtain ⟨p2, p3⟩ := hM2.cells2 0 rfl
  go_wp2_with fail
  refine (kcheck_yes g _ _ ks _ (Hg.out.later hM2.below) (Hu.out.later hM2.below) Hk.out.2.1 Hk.out.2.2).mono ?_
  rintro e w3 ⟨rfl, hb3⟩
  have hM3 := hM2.call hb3
  obtain ⟨p4, p5⟩ := hM3.cells2 0 rfl
  have hC3 : Below w1.heap.size w1 w3 := hb2.trans (hb3.mono hb2.size)
  go_wp2_with fail
  refine (rising_yes _ _ _ (Hl.out.later hC3) (listK_Rising K)).mono ?_
  rintro e w4 ⟨rfl, hb4⟩
  have hM4 := hM3.call hb4
  obtain ⟨p6, p7⟩ := hM4.cells2 0 rfl
  have hC4 := hC3.trans (hb4.mono hC3.size)
  go_wp2_with fail
  refine (within_yes g.objs.length _ _ _ (Hl.out.later hC4) (fun x hx => by have := listK_in hx; rw [HW.out.inv.len] at this; exact this)).mono ?_
  rintro e w5 ⟨rfl, rfl⟩
  go_wp2_with fail
  refine (keeping_any g _ _ _ ks (listK K) _ (Hg.out.later hM4.below) (Hu.out.later hM4.below) Hk.out.2.1 Hk.out.2.2 (Hl.out.later hC4) (fun x hx => by have := listK_in hx; rw [HW.out.inv.len] at this; exact this)).mono ?_
  rintro e w6 ⟨t, rfl, ht, hb6⟩
  obtain rfl : t = true := ht.2 HW.out.keeping
  have hM6 := hM4.call hb6
  have hC6 := hC4.trans (hb6.mono hC4.size)
  obtain ⟨q0, q1⟩ := hM6.cells2 0 rfl
  clear ht hb6
  go_wp2_with fail
  refine (masked_any g.objs.length mask _).mono ?_
  rintro e w7 ⟨vs, s, rfl, hs, hsl, hM7⟩
  have hM8 := hM6.callMem hM7
  have hC8 := hC6.trans (hM7.below.mono hC6.size)
  obtain ⟨q2, q3⟩ := hM8.cells2 1 rfl
  have hsI : IsInts w7 vs s := isInts_of_own (hM7.ownI 0 rfl) (by omega) (fun x hx => by have := hs x hx; exact ⟨by omega, by omega⟩)
  obtain ⟨asv, csv, rfl, _⟩ := hsI.slice
  have HsI := Lib.hid hsI
  have HM8 := Lib.hid hM8
  have HC8 := Lib.hid hC8
  have Hs := Lib.hid hs
  clear hM7 hsI hM8 hC8 hs hM0 hM1 hM2 hM3 hM4 hM6 hC3 hC4 hC6 hb1 hb2 hb3 hb4 p0 p1 p2 p3 p4 p5 p6 p7 q0 q1
  go_wp2_with fail
  refine (keeping_any g _ _ _ ks s _ (Hg.out.later HM8.out.below) (Hu.out.later HM8.out.below) Hk.out.2.1 Hk.out.2.2 HsI.out Hs.out).mono ?_
  rintro e w9 ⟨t, rfl, ht, hb9⟩
  have hM9 := HM8.out.call hb9
  have hl9 := Hl.out.later (HC8.out.trans (hb9.mono HC8.out.size))
  have hs9 := HsI.out.later hb9
  have HM9 := Lib.hid hM9
  cases t with
  | false =>
    clear ht hb9 hM9 hl9 hs9
    go_wp2
    go_ret
    exact ⟨rfl, HM9.out.below⟩
  | true =>
    have hin := HW.out.inside (ht.1 rfl)
    have Hin := Lib.hid hin
    have Hl9 := Lib.hid hl9
    have Hs9 := Lib.hid hs9
    clear ht hb9 hM9 hl9 hs9 hin
    go_wp2_with fail
    refine (inside_yes _ _ _ _ _ Hl9.out Hs9.out Hin.out).mono ?_
    rintro e w10 ⟨rfl, rfl⟩
    go_wp2
    go_ret
    exact ⟨rfl, HM9.out.below⟩

set_option maxRecDepth 100000 in
set_option maxHeartbeats 1000000 in
theorem wleast_bad (g : G) (v u : Value) (ks : List Int) (mask : Int) (w : World) (hg : IsGraph w v g) (hu : IsInts w u ks) (hk : ¬ KindOf g ks) :
    Calls Try.prog 4 #[v, u, .int .u32 mask] w fun e w' => e = .returned (.bool true) ∧ Below w.heap.size w w' := by
  have Hg := Lib.hid hg
  obtain ⟨vo, vr, rfl, ho, hr⟩ := hg
  obtain ⟨ao, co, rfl, hlo⟩ := ho.slice
  obtain ⟨ar, cr, rfl, hlr⟩ := hr.slice
  obtain ⟨au, cu, rfl, hlu⟩ := hu.slice
  have hM0 := (Mem.start w).alloc #[.slice ao g.objs.length co, .slice ar g.roots.length cr] 25
  have Hu := Lib.hid hu
  have Hk := Lib.hid hk
  clear ho hr hu hk
  go_enter Try.func4, Try.ntmps4
  go_wp2_with fail
  refine (kept_no g _ _ ks _ (Hg.out.later hM0.below) (Hu.out.later hM0.below) Hk.out).mono ?_
  rintro e w1 ⟨⟨c, hc, hc2, rfl⟩, hb1⟩
  have hM1 := hM0.call hb1
  obtain ⟨p0, p1⟩ := hM1.cells2 0 rfl
  by_cases hG : Good g
  · go_wp2_with fail
    refine (good_yes _ g _ (Hg.out.later hM1.below) hG).mono ?_
    rintro e w2 ⟨rfl, hb2⟩
    have hM2 := hM1.call hb2
    obtain ⟨p2, p3⟩ := hM2.cells2 0 rfl
    go_wp2_with fail
    refine (kcheck_no g _ _ ks _ (Hg.out.later hM2.below) (Hu.out.later hM2.below) (fun h => Hk.out ⟨hG, h.1, h.2⟩)).mono ?_
    rintro e w3 ⟨he, hb3⟩
    have hbe := Lib.hid (hM2.call hb3).below
    rcases he with rfl | rfl
    all_goals
      go_wp2
      go_ret
      exact ⟨rfl, hbe.out⟩
  · have HG := Lib.hid hG
    clear hG
    go_wp2_with fail
    refine (good_no _ g _ (Hg.out.later hM1.below) HG.out).mono ?_
    rintro e w2 ⟨rfl, hb2⟩
    have hbe := Lib.hid (hM1.call hb2).below
    go_wp2
    go_ret
    exact ⟨rfl, hbe.out⟩
theorem wleast_walk (w : World) (v u x : Value) (h : ∃ g, IsGraph w v g ∧ RoomG w v g) (hu : ∃ l, IsInts w u l) (hx : IsMask x) :
    Calls Try.prog 4 #[v, u, x] w fun e w' => e = .returned (.bool true) ∧ Below w.heap.size w w' := by
  obtain ⟨g, hg, hr⟩ := h
  obtain ⟨ks, hu⟩ := hu
  obtain ⟨m, rfl, _⟩ := hx
  by_cases hk : KindOf g ks
  · exact wleast_good g v u ks m w hg hr hu hk
  · exact wleast_bad g v u ks m w hg hu hk
set_option maxRecDepth 100000 in
open Go.WideShapes in
theorem open_kinds {H : Type} {enc : TypeId × Value → H} {W : World} {base : Nat} {v : Value} {d : DataW H} {p : List MemPlace}
    (hv : Value.okWide Try.prog W .any base 27 v) (h : DataW.Trod enc Try.prog W 0 (fun _ => true) true 27 v d p) : ∃ l, IsInts W v l := by
  obtain ⟨a, len, cap, rfl⟩ := okWide_slice Try.underlying27 hv
  obtain ⟨n, hn⟩ := h
  obtain ⟨u, l, e, hu⟩ := open_ints hn
  obtain rfl := (List.cons.inj e).1
  exact ⟨l, hu⟩
end Go.Proofs.Ytdmgpiimacnapaa
