/- weak.open, list, Kept, walked. -/
import Derived.Test.YtjnbnfmlpdnngaaWc
import Derived.Deep.RegionHeld3
import Derived.Deep.LoopGhost
import Derived.Test.YtjnbnfmlpdnngaaG2
import Derived.Test.YtjnbnfmlpdnngaaBase2
namespace Go.Proofs.Ytjnbnfmlpdnngaa
open Go.RowKit Go.Shelf

theorem kindbad_any (x : Int) (w : World) :
    Calls Try.prog 66 #[.int .i64 x] w fun e w' => e = .returned (.bool (decide (x < 0 ∨ 2 < x))) ∧ w = w' := by
  by_cases h0 : x < 0
  · go_enter Try.func66, Try.ntmps66
    go_wp2
    go_ret
    exact ⟨by simp [h0], rfl⟩
  · by_cases h2 : 2 < x
    · go_enter Try.func66, Try.ntmps66
      go_wp2
      go_ret
      exact ⟨by simp <;> omega, rfl⟩
    · go_enter Try.func66, Try.ntmps66
      go_wp2
      go_ret
      exact ⟨by simp <;> omega, rfl⟩
def BadAt (l : List Int) (i : Int) : Prop := 0 ≤ i ↔ ∃ x ∈ l, x < 0 ∨ 2 < x
def AnyI (P : Int → Prop) (e : Ending) : Prop := ∃ i : Int, e = .returned (.int .i64 i) ∧ P i
set_option maxHeartbeats 400000 in
theorem indexKind_any (v : Value) (l : List Int) (w : World) (hl : IsInts w v l) :
    Calls Try.prog 83 #[v, .func (.func 66) #[] #[]] w fun e w' => AnyI (BadAt l) e ∧ w = w' := by
  obtain ⟨a, cap, rfl, hm⟩ := hl.slice
  have Hl := Lib.hid hl
  clear hl
  go_enter Try.func83, Try.ntmps83
  go_wp2
  go_loop [8] (fun i => ∃ k : Nat, k ≤ l.length ∧ i = .int .i64 k ∧ NotYet l k (fun o => decide (o < 0 ∨ 2 < o))) (fun i => l.length - (intOf i).toNat)
  case atStart => exact ⟨0, Nat.zero_le _, rfl, NotYet.zero _ _⟩
  case round =>
    obtain ⟨k, hk, rfl, hN⟩ := hrel
    by_cases hlt : k < l.length
    · obtain ⟨o, hx⟩ := get_some _ _ hlt
      obtain ⟨b, off, cap2, hv, hb, hn, c1, _⟩ := Hl.out.at (Below.refl _ _) hx
      cases hv
      have HS := Lib.hid (take_succ_some _ _ _ hx)
      have Hx := Lib.hid (List.mem_of_getElem? hx)
      have HN := Lib.hid hN
      clear hx hN
      rcases hd : decide (o < 0 ∨ 2 < o) with _ | _
      · have Hd := Lib.hid hd
        have hc := kindbad_any o w
        rw [hd] at hc
        have Hc := Lib.hid hc
        clear hd hc
        go_wp2_with fail
        refine Hc.out.mono ?_
        rintro e w1 ⟨rfl, rfl⟩
        go_wp2
        go_round
        case rel => exact ⟨k + 1, by omega, by go_num, HN.out.succ HS.out Hd.out⟩
        case measure => simp [intOf]; omega
      · have Hd := Lib.hid hd
        have hc := kindbad_any o w
        rw [hd] at hc
        have Hc := Lib.hid hc
        clear hd hc
        go_wp2_with fail
        refine Hc.out.mono ?_
        rintro e w1 ⟨rfl, rfl⟩
        go_wp2
        go_ret
        exact ⟨⟨k, rfl, ⟨fun _ => ⟨o, Hx.out, of_decide_eq_true Hd.out⟩, fun _ => by omega⟩⟩, rfl⟩
    · obtain rfl : k = l.length := by omega
      have hno : ¬ ∃ o ∈ l, o < 0 ∨ 2 < o := fun ⟨o, ho, h4⟩ => by have := hN.all o ho; simp at this; omega
      have Hno := Lib.hid hno
      clear hno
      go_wp2
      go_ret
      exact ⟨⟨-1, rfl, ⟨fun h => by omega, fun h => (Hno.out h).elim⟩⟩, rfl⟩
theorem kindsBad_any (v : Value) (l : List Int) (w : World) (hl : IsInts w v l) (b : Bool) (hb : b = true ↔ ∃ x ∈ l, x < 0 ∨ 2 < x) :
    Calls Try.prog 65 #[v, .func (.func 66) #[] #[]] w fun e w' => e = .returned (.bool b) ∧ w = w' := by
  have Hl := Lib.hid hl
  have Hb := Lib.hid hb
  clear hl hb
  go_enter Try.func65, Try.ntmps65
  go_wp2_with fail
  refine (indexKind_any _ _ _ Hl.out).mono ?_
  rintro e w1 ⟨⟨i, rfl, hi⟩, rfl⟩
  have hd : decide (0 ≤ i) = b := by
    rw [Bool.eq_iff_iff, decide_eq_true_eq, Hb.out]; exact hi
  clear hi
  cases b with
  | true =>
    have h0 : 0 ≤ i := of_decide_eq_true hd
    clear hd
    go_wp2
    go_ret
    exact ⟨by simp <;> omega, rfl⟩
  | false =>
    have h0 : ¬ 0 ≤ i := of_decide_eq_false hd
    clear hd
    go_wp2
    go_ret
    exact ⟨by simp <;> omega, rfl⟩

theorem elemBools : Elem Try.prog 147 4 1 1 (.bool false) := ⟨by kernel_rfl, info_parts (by kernel_rfl), rfl, by decide⟩
theorem Mem.make_bools {B : Nat} {w0 w : World} {L : List Ent} (h : Mem B w0 w L) {w' : World} {v : Value} {m : Nat} (hown : w'.ownsRow w.heap.size 4 1 v m (madeCells #[.bool false] (m * 1)).toList) (hg : w.grownBy w' none) : Mem B w0 w' (rowB v (List.replicate m false) :: L) := by
  rw [Nat.mul_one, toList_madeCells_one] at hown
  exact (h.callRow (grown_below hg) hown).cast (by simp [rowB])
def KindsOk (ks : List Int) : Prop := ∀ x ∈ ks, 0 ≤ x ∧ x ≤ 2
theorem kindsOk_iff {ks : List Int} : KindsOk ks ↔ ¬ ∃ x ∈ ks, x < 0 ∨ 2 < x := by
  constructor
  · rintro h ⟨x, hx, h2⟩
    have := h x hx
    omega
  · intro h x hx
    apply Classical.byContradiction
    intro h2
    exact h ⟨x, hx, by omega⟩
def OpenSays (g : G) (ks : List Int) (w w' : World) (e : Ending) : Prop := ∃ (Bk gK : Nat) (vo vr vk : Value) (K : List Bool), e = .returned (.tuple #[.pointer (some ⟨Bk, 0, none⟩), .int .i64 0]) ∧ WeakS g ks K ∧
  Mem w.heap.size w w' [ebox Bk #[vo, vr, vk, .slice (some ⟨gK, 0, none⟩) g.objs.length g.objs.length] 149, rowB (.slice (some ⟨gK, 0, none⟩) g.objs.length g.objs.length) K]
/-- The graph's fields have room. -/
def RoomG (w : World) (v : Value) (g : G) : Prop := ∃ vo vr, v = .agg #[vo, vr] ∧ RoomO w vo g.objs

set_option maxRecDepth 100000 in
set_option maxHeartbeats 4000000 in
theorem open_yes (g : G) (hG : Good g) (v u : Value) (ks : List Int) (w : World) (hg : IsGraph w v g) (hroom : RoomG w v g) (hu : IsInts w u ks) (hk : KindsOk ks) (hkl : ks.length = g.objs.length) :
    Calls Try.prog 44 #[v, u] w fun e w' => OpenSays g ks w w' e := by
  have Hg := Lib.hid hg
  obtain ⟨vo, vr, rfl, ho, hr⟩ := hg
  obtain ⟨vo', vr', hv, hro⟩ := hroom
  obtain ⟨rfl, rfl⟩ : vo = vo' ∧ vr = vr' := by simpa using hv
  obtain ⟨ao, co, rfl, hlo⟩ := ho.slice
  obtain ⟨ar, cr, rfl, hlr⟩ := hr.slice
  obtain ⟨au, cu, rfl, hlu⟩ := hu.slice
  have hn := hG.objs
  have Hu := Lib.hid hu
  have Ho := Lib.hid ho
  have Hr := Lib.hid hr
  have Hro := Lib.hid hro
  have Hk := Lib.hid hk
  have Hkl := Lib.hid hkl
  rw [hkl] at hlu Hu
  rw [hkl]
  clear ho hr hu hro hv hk hkl
  have hM0 := (Mem.start w).alloc #[.slice ao g.objs.length co, .slice ar g.roots.length cr] 25
  go_enter Try.func44, Try.ntmps44
  go_wp2_with fail
  refine (gcheck_yes _ g _ (Hg.out.later hM0.below) hG).mono ?_
  rintro e w1 ⟨rfl, hb1⟩
  have hM1 := hM0.call hb1
  obtain ⟨p0, p1⟩ := hM1.cells2 0 rfl
  have z0 : w.heap.size < w1.heap.size := (hM1.box 0 rfl).2.1
  go_wp2_with fail
  refine (kindsBad_any _ ks _ (Hu.out.later hM1.below) false ⟨fun h => (by cases h), fun h => ((kindsOk_iff.1 Hk.out) h).elim⟩).mono ?_
  rintro e w2 ⟨rfl, rfl⟩
  obtain ⟨i, hi, hz, hsz, hby⟩ := elemBools.info
  obtain ⟨w3, hrun, r1, r2⟩ := run_make_full (P := Try.prog) w1.drew w1.drew.heap.size 147 4 i _ 1 elemBools.under hi hz hsz .i64 .i64 g.objs.length (by rw [hby]; omega) (by simp [maxLen]; omega) (Nat.le_refl _)
  have hM3 := hM1.drew.make_bools r1 r2
  clear hi hz hsz hby r1 r2
  have q0 : w3.cell? ⟨w.heap.size, 0, none⟩ = some (.slice ao g.objs.length co) := by have := hM3.cell 1 rfl 0; simpa using this
  have q1 : w3.cell? ⟨w.heap.size, 1, none⟩ = some (.slice ar g.roots.length cr) := by have := hM3.cell 1 rfl 1; simpa using this
  have HM3 := Lib.hid hM3
  clear hM3 hM0 hM1 hb1
  have z3 : w.heap.size < w3.heap.size := (HM3.out.box 1 rfl).2.1
  go_wp2
  go_region_held3 (fun W => W.cell? ⟨w.heap.size, 0, none⟩ = some (.slice ao g.objs.length co) ∧ W.cell? ⟨w.heap.size, 1, none⟩ = some (.slice ar g.roots.length cr))
    (first | exact ⟨by simpa using p0, by simpa using p1⟩ | exact ⟨q0, q1⟩ | exact ⟨(((Below.refl _ w3).alloc (Nat.le_refl _) _).cell (p := ⟨_, _, none⟩) z3).trans q0, (((Below.refl _ w3).alloc (Nat.le_refl _) _).cell (p := ⟨_, _, none⟩) z3).trans q1⟩)
    (fail)
  have hM4 := HM3.out.alloc #[.slice ao g.objs.length co, .slice ar g.roots.length cr, .slice au g.objs.length cu, .slice (some ⟨w1.heap.size, 0, none⟩) g.objs.length g.objs.length] 149
  obtain ⟨E, hEe⟩ : ∃ E : KeepEnv, E = ⟨g, ks, w, .slice ao g.objs.length co, .slice ar g.roots.length cr, .slice au g.objs.length cu, w3.heap.size, w1.heap.size⟩ := ⟨_, rfl⟩
  have hOk : E.Ok := by subst hEe; exact ⟨hG, Ho.out, Hro.out, Hu.out, Hkl.out⟩
  have hM5 : Mem E.w0.heap.size E.w0 (w3.alloc (.cells #[.slice ao g.objs.length co, .slice ar g.roots.length cr, .slice au g.objs.length cu, .slice (some ⟨w1.heap.size, 0, none⟩) g.objs.length g.objs.length] 149)) (E.own (List.replicate g.objs.length false) [ebox w.heap.size #[.slice ao g.objs.length co, .slice ar g.roots.length cr] 25]) := by subst hEe; exact hM4
  have hk1 := keep_any E hOk (List.replicate g.objs.length false) g.roots (.slice ar g.roots.length cr) _ _ (by subst hEe; simp) (by subst hEe; exact Hr.out) (by subst hEe; exact fun v hv => List.mem_append_left _ hv) hM5
  have hBk : E.Bk = w3.heap.size := by subst hEe; rfl
  have hEg : E.g = g ∧ E.ks = ks ∧ E.w0 = w := by subst hEe; exact ⟨rfl, rfl, rfl⟩
  have hgen : ∀ K W, Mem E.w0.heap.size E.w0 W (E.own K [ebox w.heap.size #[.slice ao g.objs.length co, .slice ar g.roots.length cr] 25]) →
      Mem w.heap.size w W [ebox w3.heap.size #[.slice ao g.objs.length co, .slice ar g.roots.length cr, .slice au g.objs.length cu, .slice (some ⟨w1.heap.size, 0, none⟩) g.objs.length g.objs.length] 149, rowB (.slice (some ⟨w1.heap.size, 0, none⟩) g.objs.length g.objs.length) K, ebox w.heap.size #[.slice ao g.objs.length co, .slice ar g.roots.length cr] 25] := by subst hEe; exact fun K W h => h
  have hkeep : ∀ (K : List Bool) (W : World) (i : Nat) (u2 : Value), K.length = g.objs.length → IsVals w u2 (strongL g ks K i) → Mem w.heap.size w W [ebox w3.heap.size #[.slice ao g.objs.length co, .slice ar g.roots.length cr, .slice au g.objs.length cu, .slice (some ⟨w1.heap.size, 0, none⟩) g.objs.length g.objs.length] 149, rowB (.slice (some ⟨w1.heap.size, 0, none⟩) g.objs.length g.objs.length) K, ebox w.heap.size #[.slice ao g.objs.length co, .slice ar g.roots.length cr] 25] →
      Calls Try.prog 67 #[.pointer (some ⟨w3.heap.size, 0, none⟩), u2] W fun e w' => ∃ K' more, e = .returned (.bool more) ∧ KeepS g ks K K' (strongL g ks K i) more ∧
        Mem w.heap.size w w' [ebox w3.heap.size #[.slice ao g.objs.length co, .slice ar g.roots.length cr, .slice au g.objs.length cu, .slice (some ⟨w1.heap.size, 0, none⟩) g.objs.length g.objs.length] 149, rowB (.slice (some ⟨w1.heap.size, 0, none⟩) g.objs.length g.objs.length) K', ebox w.heap.size #[.slice ao g.objs.length co, .slice ar g.roots.length cr] 25] := by
    intro K W i u2 hKl hu2 hM
    have h := keep_any E hOk K (strongL g ks K i) u2 W [ebox w.heap.size #[.slice ao g.objs.length co, .slice ar g.roots.length cr] 25] (by subst hEe; exact hKl) (by subst hEe; exact hu2) (by subst hEe; exact fun v hv => fields_in _ _ _ ((mem_strong.1 hv).field)) (by subst hEe; exact hM)
    subst hEe
    exact h.mono fun e w' ⟨K', more, h1, h2, h3, _⟩ => ⟨K', more, h1, h2, h3⟩
  have hkpr : ∀ (K : List Bool) (W : World), K.length = g.objs.length → Mem w.heap.size w W [ebox w3.heap.size #[.slice ao g.objs.length co, .slice ar g.roots.length cr, .slice au g.objs.length cu, .slice (some ⟨w1.heap.size, 0, none⟩) g.objs.length g.objs.length] 149, rowB (.slice (some ⟨w1.heap.size, 0, none⟩) g.objs.length g.objs.length) K, ebox w.heap.size #[.slice ao g.objs.length co, .slice ar g.roots.length cr] 25] →
      IsKeeper W w3.heap.size (.slice ao g.objs.length co) (.slice ar g.roots.length cr) (.slice au g.objs.length cu) (.slice (some ⟨w1.heap.size, 0, none⟩) g.objs.length g.objs.length) K := by
    intro K W hKl hM
    have h := keeper_of (E := E) (w := W) (K := K) (L' := [ebox w.heap.size #[.slice ao g.objs.length co, .slice ar g.roots.length cr] 25]) (by subst hEe; exact hM) (by subst hEe; exact hKl) (by subst hEe; exact hn)
    subst hEe
    exact h
  have Hk1 : Hid (Calls Try.prog 67 #[.pointer (some ⟨w3.heap.size, 0, none⟩), .slice ar g.roots.length cr] _ fun e w' => ∃ K' more, e = .returned (.bool more) ∧ OpenInv g ks K' ∧ Mem w.heap.size w w' [ebox w3.heap.size #[.slice ao g.objs.length co, .slice ar g.roots.length cr, .slice au g.objs.length cu, .slice (some ⟨w1.heap.size, 0, none⟩) g.objs.length g.objs.length] 149, rowB (.slice (some ⟨w1.heap.size, 0, none⟩) g.objs.length g.objs.length) K', ebox w.heap.size #[.slice ao g.objs.length co, .slice ar g.roots.length cr] 25]) := Lib.hid (by
    rw [hBk] at hk1
    subst hEe
    exact hk1.mono fun e w' ⟨K', more, h1, h2, h3, _⟩ => ⟨K', more, h1, OpenInv.start h2, h3⟩)
  have Hkeep := Lib.hid hkeep
  have Hkpr := Lib.hid hkpr
  clear hkeep hkpr hk1 hgen hM5 hM4 hBk hEg hOk hEe HM3 hrun q0 q1 p0 p1
  go_wp2_with fail
  refine Hk1.out.mono ?_
  rintro e w5 ⟨K, mo0, rfl, hOI, hM5⟩
  have hm0 : 2 * (g.objs.length - cnt K) + 1 ≤ 2 * g.objs.length + 1 := by omega
  go_wp2
  go_loopg [8] (2 * (g.objs.length - cnt K) + 1) (fun gk s8 wr => ∃ (K : List Bool) (mo : Bool), s8 = .bool mo ∧ gk = 2 * (g.objs.length - cnt K) + (if mo then 1 else 0) ∧ OpenInv g ks K ∧ (mo = false → WeakS g ks K) ∧
    Mem w.heap.size w wr [ebox w3.heap.size #[.slice ao g.objs.length co, .slice ar g.roots.length cr, .slice au g.objs.length cu, .slice (some ⟨w1.heap.size, 0, none⟩) g.objs.length g.objs.length] 149, rowB (.slice (some ⟨w1.heap.size, 0, none⟩) g.objs.length g.objs.length) K, ebox w.heap.size #[.slice ao g.objs.length co, .slice ar g.roots.length cr] 25])
  case atStart => exact ⟨K, true, rfl, rfl, hOI, fun h => (by cases h), hM5⟩
  case round =>
    clear hM5 hOI hm0
    obtain ⟨K0, mo, rfl, hgk, hOI, hW, hM⟩ := hrel
    have HW := Lib.hid hW
    have HM := Lib.hid hM
    have HOI := Lib.hid hOI
    have Hgk := Lib.hid hgk
    clear hW hOI hgk
    cases mo with
    | false =>
      have HWs := Lib.hid (HW.out rfl)
      clear hM
      go_wp2
      go_ret2
      exact ⟨_, _, _, _, _, K0, rfl, HWs.out, HM.out.pick0 [0, 1] (by decide) rfl⟩
    | true =>
      obtain ⟨p0, p1⟩ := hM.cells2 2 rfl
      have hPI := PassInv.start HOI.out
      clear hM
      go_wp2
      go_loopg [8, 39] g.objs.length (fun gj s8 s39 wr => ∃ (i : Nat) (K : List Bool) (mo : Bool), i + gj = g.objs.length ∧ s39 = .int .i64 (i : Int) ∧ s8 = .bool mo ∧ PassInv g ks K0 K i mo ∧
        Mem w.heap.size w wr [ebox w3.heap.size #[.slice ao g.objs.length co, .slice ar g.roots.length cr, .slice au g.objs.length cu, .slice (some ⟨w1.heap.size, 0, none⟩) g.objs.length g.objs.length] 149, rowB (.slice (some ⟨w1.heap.size, 0, none⟩) g.objs.length g.objs.length) K, ebox w.heap.size #[.slice ao g.objs.length co, .slice ar g.roots.length cr] 25])
      case atStart => exact ⟨0, K0, false, by omega, rfl, rfl, hPI, HM.out⟩
      case round =>
        clear HM hPI p0 p1
        obtain ⟨i, K, mo, hij, rfl, rfl, hP, hM⟩ := hrel
        have HP := Lib.hid hP
        have HM := Lib.hid hM
        cases gk with
        | zero =>
          obtain rfl : i = g.objs.length := by omega
          have hlt : 2 * (g.objs.length - cnt K) + (if mo = true then 1 else 0) < 2 * (g.objs.length - cnt K0) + 1 := by
            cases hmo : mo with
            | false => have := (hP.no hmo).1; subst this; simp
            | true =>
              have h1 := hP.yes hmo
              have h2 := cnt_le K
              rw [hP.inv.len] at h2
              simp
              omega
          have Hlt := Lib.hid hlt
          clear hlt hP hM
          go_wp2
          go_roundg (2 * (g.objs.length - cnt K) + (if mo = true then 1 else 0))
          case rel => exact ⟨K, mo, rfl, rfl, HP.out.inv, fun h => (by subst h; exact HP.out.done), HM.out⟩
          case measure => have h1 := Hlt.out; have h2 := Hgk.out; simp at h2; omega
        | succ gj =>
          have hKl := hP.inv.len
          have hi : i < g.objs.length := by omega
          obtain ⟨b, hb⟩ := get_some K i (by omega)
          have hkp := Hkpr.out K wr hKl hM
          obtain ⟨bz, oz, cz, hv, hbz, c4⟩ := hkp.kept.at hb
          rw [hKl] at hv
          cases hv
          rw [Nat.zero_add] at c4
          have c3 := hkp.c3
          have Hkp := Lib.hid hkp
          have HKl := Lib.hid hKl
          have hkx : kp K (i : Int) = b := by
            unfold kp
            rw [Int.toNat_natCast, List.getD_eq_getElem?_getD, hb]
            simp
          have Hkx := Lib.hid hkx
          have hbw := Lib.hid hM.below
          have zk := hkp.lt
          clear hb hkp hP hM hKl hkx
          cases b with
          | false =>
            go_wp2
            go_roundg gj
            case rel => exact ⟨i + 1, K, mo, by omega, by go_num, rfl, HP.out.skip Hkx.out, HM.out⟩
            case measure => omega
          | true =>
            go_wp2_with fail
            refine (strong_any g hG ks w wr w3.heap.size _ _ _ _ K i hi Ho.out Hro.out Hu.out Hkl.out hbw.out Hkp.out HKl.out).mono ?_
            rintro e w6 ⟨u2, rfl, hu2, hb6⟩
            have hcall := Lib.hid (Hkeep.out K w6 i u2 HKl.out hu2 (HM.out.call hb6))
            clear hu2 hb6
            go_wp2_with fail
            refine hcall.out.mono ?_
            rintro e w7 ⟨K', more, rfl, hS, hM7⟩
            have HM7 := Lib.hid hM7
            have HSs := Lib.hid hS
            clear hM7 hS
            cases more with
            | false =>
              go_wp2
              go_roundg gj
              case rel => exact ⟨i + 1, K', mo, by omega, by go_num, rfl, HP.out.none HSs.out, HM7.out⟩
              case measure => omega
            | true =>
              go_wp2
              go_roundg gj
              case rel => exact ⟨i + 1, K', true, by omega, by go_num, rfl, HP.out.some Hkx.out HSs.out, HM7.out⟩
              case measure => omega
end Go.Proofs.Ytjnbnfmlpdnngaa
