/- ragpickerkeep.tells. -/
import Derived.Test.YtjeaaiklbefmmaaHu
import Derived.Deep.RegionHeld3
import Derived.Deep.DeepCutAuto
namespace Go.Proofs.Ytjeaaiklbefmmaa
open Go.RowKit Go.Shelf

/-- A call that says whether something is so. -/
def SaysB (p : Prop) (w w' : World) (e : Ending) : Prop := ∃ t : Bool, e = .returned (.bool t) ∧ (t = true ↔ p) ∧ Below w.heap.size w w'
/-- There is room in a slice for what it has. -/
def Room (v : Value) : Prop := ∃ a n c, v = .slice a n c ∧ n ≤ c ∧ c ≤ 9223372036854775807
theorem fldI_at {g : G} {x : Nat} {o : List V} (h : g.objs[x]? = some o) (k : Int) : fldI g x k = fldL o k := by
  unfold fldI fldL fld fieldsAt
  rw [Int.toNat_natCast, List.getD_eq_getElem?_getD, h]; rfl
set_option maxRecDepth 100000 in
set_option maxHeartbeats 4000000 in
theorem ktells_any (g : G) (hG : Good g) (v : Value) (a b : Nat) (u : Value) (way : List Int) (w : World) (hg : IsGraph w v g) (hu : IsInts w u way) (hroom : Room u) (ha : a < g.objs.length) (hb : b < g.objs.length) :
    Calls Try.prog 37 #[v, .int .i64 a, .int .i64 b, u] w fun e w' => SaysB (wayTells g ((a : Int), (b : Int)) way) w w' e := by
  have Hg := Lib.hid hg
  obtain ⟨vo, vr, rfl, ho, hr⟩ := hg
  obtain ⟨ao, co, rfl, hlo⟩ := ho.slice
  obtain ⟨ar, cr, rfl, hlr⟩ := hr.slice
  have Ho := Lib.hid ho
  clear ho hr
  have hM0 := (Mem.start w).alloc #[.slice ao g.objs.length co, .slice ar g.roots.length cr] 25
  have hn := hG.objs
  rcases List.eq_nil_or_concat way with rfl | ⟨l, k, rfl⟩
  · obtain ⟨au, cu, rfl, hlu⟩ := hu.slice
    have hbe := Lib.hid hM0.below
    clear hu
    go_enter Try.func37, Try.ntmps37
    go_wp2
    go_ret
    exact ⟨false, rfl, ⟨fun h => (by cases h), fun h => h.elim⟩, hbe.out⟩
  · rw [List.concat_eq_append] at hu ⊢
    obtain ⟨au, cu, rfl, hlu⟩ := hu.slice
    have hu2 := isInts_butlast hu
    obtain ⟨N, hN⟩ : ∃ N, N = l.length := ⟨_, rfl⟩
    have hNl : (l ++ [k]).length = N + 1 := by rw [hN]; simp
    obtain ⟨bz, oz, cz, hv, hbz, hnz, d3, hk64⟩ := hu.at hM0.below (k := N) (x := k) (by rw [hN]; simp)
    cases hv
    rw [hNl] at hroom hlu hu
    rw [← hN] at hu2
    obtain ⟨_, _, _, hv, hr1, hr2⟩ := hroom
    cases hv
    have Hu := Lib.hid hu2
    have d4 : w.cell? ⟨bz, oz + N, none⟩ = some (.int .i64 k) := (hM0.below.cell (p := ⟨_, _, none⟩) hbz).symm.trans d3
    obtain ⟨X, hX⟩ : ∃ X, alongG g a l = X := ⟨_, rfl⟩
    obtain ⟨Y, hY⟩ : ∃ Y, alongG g b l = Y := ⟨_, rfl⟩
    have HX := Lib.hid hX
    have HY := Lib.hid hY
    have HT : Hid (wayTells g ((a : Int), (b : Int)) (l ++ [k]) ↔ ∃ x y, X = some x ∧ Y = some y ∧ clsV (fldI g x k) ≠ clsV (fldI g y k)) := Lib.hid (by rw [wt_snoc, hX, hY])
    have HXi : Hid (∀ j, X = some j → 0 ≤ j ∧ j < g.objs.length) := Lib.hid (fun j h => alongG_in hG l a j ⟨by omega, by omega⟩ (hX.trans h))
    have HYi : Hid (∀ j, Y = some j → 0 ≤ j ∧ j < g.objs.length) := Lib.hid (fun j h => alongG_in hG l b j ⟨by omega, by omega⟩ (hY.trans h))
    obtain ⟨xv, hxv⟩ : ∃ xv, xv = X.getD 0 := ⟨_, rfl⟩
    obtain ⟨xi, hxi⟩ : ∃ xi, xi = X.isSome := ⟨_, rfl⟩
    obtain ⟨yv, hyv⟩ : ∃ yv, yv = Y.getD 0 := ⟨_, rfl⟩
    obtain ⟨yi, hyi⟩ : ∃ yi, yi = Y.isSome := ⟨_, rfl⟩
    have HA1 : Hid (alongV (alongG g a l) = .tuple #[.int .i64 xv, .bool xi]) := Lib.hid (by rw [hX, alongV, hxv, hxi])
    have HA2 : Hid (alongV (alongG g b l) = .tuple #[.int .i64 yv, .bool yi]) := Lib.hid (by rw [hY, alongV, hyv, hyi])
    have Hxv := Lib.hid hxv
    have Hxi := Lib.hid hxi
    have Hyv := Lib.hid hyv
    have Hyi := Lib.hid hyi
    clear hxv hxi hyv hyi
    have hz : ((N : Int) + 1 == 0) = false := by simp; omega
    have hw1 : IntKind.wrap .i64 ((N : Int) + 1 - 1) = (N : Int) := by simp [IntKind.wrap, IntKind.bits, IntKind.signed]; omega
    have hw2 : IntKind.wrap .i64 (N : Int) = (N : Int) := by simp [IntKind.wrap, IntKind.bits, IntKind.signed]; omega
    have hs0 : (0 : Int) ≤ (N : Int) := by omega
    have hs1 : (N : Int) ≤ (cu : Int) := by omega
    have hs2 : ((N : Int)).toNat = N := by simp
    have hs3 : N ≤ cu := by omega
    rw [hNl]
    clear hX hY hu hu2 d3 hNl hN
    go_enter Try.func37, Try.ntmps37
    go_wp2_with fail
    go_cut [9, 10] (fun s9 s10 W => s9 = .int .i64 xv ∧ s10 = .bool xi ∧ Mem w.heap.size w W [ebox w.heap.size #[.slice ao g.objs.length co, .slice ar g.roots.length cr] 25])
    case first =>
      go_region_held3 (fun W => W.cell? ⟨w.heap.size, 0, none⟩ = some (.slice ao g.objs.length co) ∧ W.cell? ⟨w.heap.size, 1, none⟩ = some (.slice ar g.roots.length cr))
        (first | exact ⟨by simp, by simp⟩ | exact ⟨p0, p1⟩)
        (first
          | (go_at_call 59
             refine (along_in g hG _ a _ l _ (Hg.out.later hM0.drew.below) (Hu.out.later hM0.drew.below) ha).mono ?_
             rintro e w1 ⟨he, hb1⟩
             rw [HA1.out] at he
             subst he
             have hM1 := hM0.drew.call hb1
             obtain ⟨p0, p1⟩ := hM1.cells2 0 rfl))
      all_goals
        go_wp2_with fail
        go_meet
        exact ⟨rfl, rfl, hM1⟩
    case rest =>
      obtain ⟨rfl, rfl, hM1⟩ := hcut
      obtain ⟨p0, p1⟩ := hM1.cells2 0 rfl
      go_wp2_with fail
      go_cut [11, 12] (fun s11 s12 W => s11 = .int .i64 yv ∧ s12 = .bool yi ∧ Mem w.heap.size w W [ebox w.heap.size #[.slice ao g.objs.length co, .slice ar g.roots.length cr] 25])
      case first =>
        go_region_held3 (fun W => W.cell? ⟨w.heap.size, 0, none⟩ = some (.slice ao g.objs.length co) ∧ W.cell? ⟨w.heap.size, 1, none⟩ = some (.slice ar g.roots.length cr))
          (first | exact ⟨by simpa using p0, by simpa using p1⟩ | exact ⟨q0, q1⟩)
          (first
            | (go_at_call 59
               refine (along_in g hG _ b _ l _ (Hg.out.later hM1.drew.below) (Hu.out.later hM1.drew.below) hb).mono ?_
               rintro e w2 ⟨he, hb2⟩
               rw [HA2.out] at he
               subst he
               have hM2 := hM1.drew.call hb2
               obtain ⟨q0, q1⟩ := hM2.cells2 0 rfl))
        all_goals
          go_wp2_with fail
          go_meet
          exact ⟨rfl, rfl, hM2⟩
      case rest =>
        obtain ⟨rfl, rfl, hM2⟩ := hcut
        clear hM1 p0 p1 hM0
        have hb2 := hM2.below
        by_cases hxy : xi = true ∧ yi = true
        · obtain ⟨rfl, rfl⟩ := hxy
          obtain ⟨x, hx⟩ := Option.isSome_iff_exists.1 Hxi.out.symm
          obtain ⟨y, hy⟩ := Option.isSome_iff_exists.1 Hyi.out.symm
          have hxx : xv = x := by rw [Hxv.out, hx]; rfl
          have hyy : yv = y := by rw [Hyv.out, hy]; rfl
          have hxin := HXi.out x hx
          have hyin := HYi.out y hy
          subst hxx hyy
          obtain ⟨xa, rfl⟩ : ∃ i : Nat, xv = (i : Int) := ⟨xv.toNat, by omega⟩
          obtain ⟨ya, rfl⟩ : ∃ i : Nat, yv = (i : Int) := ⟨yv.toNat, by omega⟩
          have hxa : xa < g.objs.length := by omega
          have hya : ya < g.objs.length := by omega
          obtain ⟨op, hop⟩ := get_some _ _ hxa
          obtain ⟨oq, hoq⟩ := get_some _ _ hya
          obtain ⟨P, hP⟩ : ∃ P, fldL op k = P := ⟨_, rfl⟩
          obtain ⟨Q, hQ⟩ : ∃ Q, fldL oq k = Q := ⟨_, rfl⟩
          have HT2 : Hid (wayTells g ((a : Int), (b : Int)) (l ++ [k]) ↔ differB P Q = true) := Lib.hid (by
            rw [HT.out, differ_iff]
            constructor
            · rintro ⟨x, y, h1, h2, h3⟩
              rw [hx] at h1; rw [hy] at h2
              cases h1; cases h2
              rw [fldI_at hop, fldI_at hoq, hP, hQ] at h3
              exact h3
            · intro h3
              exact ⟨_, _, hx, hy, by rw [fldI_at hop, fldI_at hoq, hP, hQ]; exact h3⟩)
          obtain ⟨xr, hxr⟩ : ∃ xr, xr = (atV P).ref := ⟨_, rfl⟩
          obtain ⟨xn, hxn⟩ : ∃ xn, xn = (atV P).n := ⟨_, rfl⟩
          obtain ⟨xi, hxi⟩ : ∃ xi, xi = P.isSome := ⟨_, rfl⟩
          obtain ⟨yr, hyr⟩ : ∃ xr, xr = (atV Q).ref := ⟨_, rfl⟩
          obtain ⟨yn, hyn⟩ : ∃ xn, xn = (atV Q).n := ⟨_, rfl⟩
          obtain ⟨yi, hyi⟩ : ∃ xi, xi = Q.isSome := ⟨_, rfl⟩
          have HP1 : Hid (∀ e, atE (fldL op k) e → e = .returned (.tuple #[.agg #[.bool xr, .int .i64 xn], .bool xi])) := Lib.hid (fun e he => by rw [hP, atE, ← hxr, ← hxn, ← hxi] at he; exact he)
          have HQ1 : Hid (∀ e, atE (fldL oq k) e → e = .returned (.tuple #[.agg #[.bool yr, .int .i64 yn], .bool yi])) := Lib.hid (fun e he => by rw [hQ, atE, ← hyr, ← hyn, ← hyi] at he; exact he)
          have hD : Hid (differB P Q = ((xi != yi) || (!(xr && yr) && decide ((⟨xr, xn⟩ : V) ≠ ⟨yr, yn⟩)))) := Lib.hid (by
            have e1 : (⟨xr, xn⟩ : V) = atV P := by rw [hxr, hxn]
            have e2 : (⟨yr, yn⟩ : V) = atV Q := by rw [hyr, hyn]
            rw [differB, ← hxi, ← hyi, e1, e2, ← hxr, ← hyr])
          obtain ⟨bo, oo, _, up, hv, hbo, hz1, c1, hup⟩ := Ho.out.at hM2.below hop
          cases hv
          obtain ⟨_, _, _, uq, hv, _, _, c2, huq⟩ := Ho.out.at hM2.below hoq
          cases hv
          obtain ⟨aup, cup, rfl, _⟩ := hup.slice
          obtain ⟨auq, cuq, rfl, _⟩ := huq.slice
          obtain ⟨p0, p1⟩ := hM2.cells2 0 rfl
          have z0 : w.heap.size < wc.heap.size := (hM2.box 0 rfl).2.1
          have z1 : bz < wc.heap.size := Nat.lt_of_lt_of_le hbz hM2.below.size
          have d5 : wc.cell? ⟨bz, oz + N, none⟩ = some (.int .i64 k) := (hM2.below.cell (p := ⟨_, _, none⟩) hbz).trans d4
          have Hup := Lib.hid (hup.later hM2.below)
          have Huq := Lib.hid (huq.later hM2.below)
          have HS : Hid (∀ W : World, Below wc.heap.size wc W → W.cell? ⟨w.heap.size, 0, none⟩ = some (.slice (some ⟨bo, oo, none⟩) g.objs.length co) ∧ W.cell? ⟨bo, oo + xa, none⟩ = some (.slice aup op.length cup) ∧ W.cell? ⟨bo, oo + ya, none⟩ = some (.slice auq oq.length cuq) ∧ W.cell? ⟨bz, oz + N, none⟩ = some (.int .i64 k)) := Lib.hid (fun W hW =>
            ⟨(hW.cell (p := ⟨_, _, none⟩) z0).trans p0, (hW.cell (p := ⟨_, _, none⟩) hz1).trans c1, (hW.cell (p := ⟨_, _, none⟩) hz1).trans c2, (hW.cell (p := ⟨_, _, none⟩) z1).trans d5⟩)
          have hx0 : (0 : Int) ≤ (xa : Int) := by omega
          have hx1 : (xa : Int) < (g.objs.length : Int) := by omega
          have hy0 : (0 : Int) ≤ (ya : Int) := by omega
          have hy1 : (ya : Int) < (g.objs.length : Int) := by omega
          have hN1 : (N : Int) < (N : Int) + 1 := by omega
          have hN2 : N < N + 1 := by omega
          have HM2 := Lib.hid hM2
          clear hxr hxn hxi hyr hyn hyi hP hQ hop hoq hx hy hxin hyin hup huq hM2 hb2
          go_wp2_with fail
          go_cut [13, 14] (fun s13 s14 W => ∃ b1 : Nat, s13 = .pointer (some ⟨b1, 0, none⟩) ∧ s14 = .bool xi ∧ Below wc.heap.size wc W ∧ Mem w.heap.size w W [ebox b1 #[.bool xr, .int .i64 xn] 35, ebox w.heap.size #[.slice (some ⟨bo, oo, none⟩) g.objs.length co, .slice ar g.roots.length cr] 25])
          case first =>
            go_region_held3 (fun W => W.cell? ⟨w.heap.size, 0, none⟩ = some (.slice (some ⟨bo, oo, none⟩) g.objs.length co) ∧ W.cell? ⟨bo, oo + xa, none⟩ = some (.slice aup op.length cup) ∧ W.cell? ⟨bo, oo + ya, none⟩ = some (.slice auq oq.length cuq) ∧ W.cell? ⟨bz, oz + N, none⟩ = some (.int .i64 k))
              (exact HS.out _ (by repeat (first | exact Below.refl _ _ | assumption | refine Below.setCell ?_ (by first | exact Nat.le_refl _ | (simp; done) | (simp; omega) | (simp at *; omega)) _ | refine Below.alloc ?_ (by first | exact Nat.le_refl _ | (simp; done) | (simp; omega) | (simp at *; omega)) _ | refine Below.drew ?_)))
              (first
                | (go_at_call 60
                   refine (kfield_any _ op k wc.drew (Hup.out.later ((Below.refl _ _).drew))).mono ?_
                   rintro e w3 ⟨he, hb3⟩
                   obtain rfl := HP1.out e he
                   have hbw := ((Below.refl wc.heap.size wc).drew).trans (hb3.mono (Nat.le_refl _))
                   have hzz : wc.heap.size ≤ w3.heap.size := hbw.size
                   have hM3 := HM2.out.drew.call hb3)
                | (go_at_call 60
                   refine (kfield_any _ op k (wc.alloc (.cells #[.bool false, .int .i64 0] 35)).drew (Hup.out.later (((Below.refl _ _).alloc (Nat.le_refl _) _).drew))).mono ?_
                   rintro e w3 ⟨he, hb3⟩
                   obtain rfl := HP1.out e he
                   have hbw := (((Below.refl wc.heap.size wc).alloc (Nat.le_refl _) _).drew).trans (hb3.mono (by simp))
                   have hzz : wc.heap.size ≤ w3.heap.size := hbw.size
                   have hM3 := (HM2.out.alloc #[.bool false, .int .i64 0] 35).drew.call hb3
                   obtain ⟨s0, s1⟩ := hM3.cells2 0 rfl
                   have s2 : w3.frozen? ⟨wc.heap.size, 0, none⟩ = false := hM3.free 0 rfl 0
                   have s3 : w3.frozen? ⟨wc.heap.size, 1, none⟩ = false := hM3.free 0 rfl 1))
            all_goals
              go_wp2_with fail
              go_meet
              first
                | exact ⟨_, rfl, rfl, hbw.alloc hzz _, hM3.alloc #[.bool xr, .int .i64 xn] 35⟩
                | exact ⟨_, rfl, rfl, (hbw.setCell (Nat.le_refl _) _).setCell (Nat.le_refl _) _, (hM3.setBox 0 rfl 0 (.bool xr)).setBox 0 rfl 1 (.int .i64 xn)⟩
          case rest =>
            obtain ⟨b1, rfl, rfl, hbw1, hM3⟩ := hcut
            have HS2 : Hid (∀ W : World, Below wc.heap.size wc W → W.cell? ⟨w.heap.size, 0, none⟩ = some (.slice (some ⟨bo, oo, none⟩) g.objs.length co) ∧ W.cell? ⟨bo, oo + xa, none⟩ = some (.slice aup op.length cup) ∧ W.cell? ⟨bo, oo + ya, none⟩ = some (.slice auq oq.length cuq) ∧ W.cell? ⟨bz, oz + N, none⟩ = some (.int .i64 k)) :=
              Lib.hid (fun W hW => HS.out W (hbw1.trans (hW.mono hbw1.size)))
            obtain ⟨p0, c1, c2, d5⟩ := HS2.out wc (Below.refl _ _)
            have Huq2 := Lib.hid (Huq.out.later hbw1)
            have HM3 := Lib.hid hM3
            clear hM3 hbw1 HS HM2 Huq Hup
            go_wp2_with fail
            go_cut [15, 16] (fun s15 s16 W => ∃ b2 : Nat, s15 = .pointer (some ⟨b2, 0, none⟩) ∧ s16 = .bool yi ∧ Mem w.heap.size w W [ebox b2 #[.bool yr, .int .i64 yn] 35, ebox b1 #[.bool xr, .int .i64 xn] 35, ebox w.heap.size #[.slice (some ⟨bo, oo, none⟩) g.objs.length co, .slice ar g.roots.length cr] 25])
            case first =>
              go_region_held3 (fun W => W.cell? ⟨w.heap.size, 0, none⟩ = some (.slice (some ⟨bo, oo, none⟩) g.objs.length co) ∧ W.cell? ⟨bo, oo + xa, none⟩ = some (.slice aup op.length cup) ∧ W.cell? ⟨bo, oo + ya, none⟩ = some (.slice auq oq.length cuq) ∧ W.cell? ⟨bz, oz + N, none⟩ = some (.int .i64 k))
                (exact HS2.out _ (by repeat (first | exact Below.refl _ _ | assumption | refine Below.setCell ?_ (by first | exact Nat.le_refl _ | (simp; done) | (simp; omega) | (simp at *; omega)) _ | refine Below.alloc ?_ (by first | exact Nat.le_refl _ | (simp; done) | (simp; omega) | (simp at *; omega)) _ | refine Below.drew ?_)))
                (first
                  | (go_at_call 60
                     refine (kfield_any _ oq k wc.drew (Huq2.out.later ((Below.refl _ _).drew))).mono ?_
                     rintro e w3 ⟨he, hb3⟩
                     obtain rfl := HQ1.out e he
                     have hbw := ((Below.refl wc.heap.size wc).drew).trans (hb3.mono (Nat.le_refl _))
                     have hzz : wc.heap.size ≤ w3.heap.size := hbw.size
                     have hM3 := HM3.out.drew.call hb3)
                  | (go_at_call 60
                     refine (kfield_any _ oq k (wc.alloc (.cells #[.bool false, .int .i64 0] 35)).drew (Huq2.out.later (((Below.refl _ _).alloc (Nat.le_refl _) _).drew))).mono ?_
                     rintro e w3 ⟨he, hb3⟩
                     obtain rfl := HQ1.out e he
                     have hbw := (((Below.refl wc.heap.size wc).alloc (Nat.le_refl _) _).drew).trans (hb3.mono (by simp))
                     have hzz : wc.heap.size ≤ w3.heap.size := hbw.size
                     have hM3 := (HM3.out.alloc #[.bool false, .int .i64 0] 35).drew.call hb3
                     obtain ⟨s0, s1⟩ := hM3.cells2 0 rfl
                     have s2 : w3.frozen? ⟨wc.heap.size, 0, none⟩ = false := hM3.free 0 rfl 0
                     have s3 : w3.frozen? ⟨wc.heap.size, 1, none⟩ = false := hM3.free 0 rfl 1))
              all_goals
                go_wp2_with fail
                go_meet
                first
                  | exact ⟨_, rfl, rfl, hM3.alloc #[.bool yr, .int .i64 yn] 35⟩
                  | exact ⟨_, rfl, rfl, (hM3.setBox 0 rfl 0 (.bool yr)).setBox 0 rfl 1 (.int .i64 yn)⟩
            case rest =>
              obtain ⟨b2, rfl, rfl, hM4⟩ := hcut
              obtain ⟨r0, r1⟩ := hM4.cells2 0 rfl
              obtain ⟨r2, r3⟩ := hM4.cells2 1 rfl
              have hbe := Lib.hid hM4.below
              clear hM4 p0 c1 c2 d5 HS2 HM3
              by_cases hxy : xn = yn
              · subst hxy
                cases xi <;> cases yi <;> cases xr <;> cases yr
                all_goals
                  go_wp2
                  go_ret
                  exact ⟨_, rfl, by rw [HT2.out, hD.out]; simp, hbe.out⟩
              · cases xi <;> cases yi <;> cases xr <;> cases yr
                all_goals
                  go_wp2
                  go_ret
                  exact ⟨_, rfl, by rw [HT2.out, hD.out]; simp [hxy], hbe.out⟩
        · have hF : ¬ wayTells g ((a : Int), (b : Int)) (l ++ [k]) := by
            intro h
            obtain ⟨x, y, h1, h2, _⟩ := HT.out.1 h
            exact hxy ⟨by rw [Hxi.out, h1]; rfl, by rw [Hyi.out, h2]; rfl⟩
          have HF := Lib.hid hF
          clear hF
          cases xi <;> cases yi <;> simp at hxy
          all_goals
            go_wp2
            go_ret
            exact ⟨false, rfl, ⟨fun h => (by cases h), fun h => (HF.out h).elim⟩, hb2⟩
end Go.Proofs.Ytjeaaiklbefmmaa
