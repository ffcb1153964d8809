/- share.field, share.differ, share.tells. -/
import Derived.Test.YtdmgpiimacnapaaHm
namespace Go.Proofs.Ytdmgpiimacnapaa
open Go.RowKit Go.Shelf

set_option maxRecDepth 100000 in
set_option maxHeartbeats 4000000 in
theorem sfield_any (u : Value) (l : List V) (k : Nat) (w : World) (hu : IsVals w u l) :
    Calls Try.prog 65 #[.agg #[u], .int .i64 k] w fun e w' => atE l[k]? e ∧ Below w.heap.size w w' := by
  obtain ⟨a, c, rfl, hl⟩ := hu.slice
  have Hu := Lib.hid hu
  clear hu
  have hM0 := (Mem.start w).alloc #[.slice a l.length c] 52
  by_cases hk : k < l.length
  · obtain ⟨x, hx⟩ := get_some _ _ hk
    obtain ⟨b, off, cap, hv, hb, hn, c1, c2, _⟩ := Hu.out.at hM0.below hx
    cases hv
    have Hx := Lib.hid hx
    clear hx
    have hM1 := hM0.allocAt (w.heap.size + 1) (by simp) #[.bool x.ref, .int .i64 x.n] 67
    have hb1 := hM1.below
    clear hM1
    go_enter Try.func65, Try.ntmps65
    go_wp2
    refine bodyPost_ret (v := .tuple #[.agg #[.bool x.ref, .int .i64 x.n], .bool true]) (by simp [results, Try.results65, go_sem]) rfl ⟨by rw [Hx.out]; rfl, hb1⟩
  · have Hx := Lib.hid (List.getElem?_eq_none (Nat.le_of_not_lt hk))
    have hM1 := hM0.allocAt (w.heap.size + 1) (by simp) #[.bool false, .int .i64 0] 67
    have hb1 := hM1.below
    clear hM1
    go_enter Try.func65, Try.ntmps65
    go_wp2
    refine bodyPost_ret (v := .tuple #[.agg #[.bool false, .int .i64 0], .bool false]) (by simp [results, Try.results65, go_sem]) rfl ⟨by rw [Hx.out]; rfl, hb1⟩

set_option maxRecDepth 100000 in
set_option maxHeartbeats 4000000 in
theorem differ_any (g : G) (v : Value) (p q k : Nat) (w : World) (hg : IsGraph w v g) (hp : p < g.objs.length) (hq : q < g.objs.length) :
    Calls Try.prog 64 #[v, pairV (p, q), .int .i64 k] w fun e w' => e = .returned (.bool (differB (fld g p k) (fld g q k))) ∧ Below w.heap.size w w' := by
  obtain ⟨vo, vr, rfl, ho, hr⟩ := hg
  obtain ⟨ao, co, rfl, hlo⟩ := ho.slice
  obtain ⟨ar, cr, rfl, hlr⟩ := hr.slice
  have Ho := Lib.hid ho
  have Hr := Lib.hid hr
  clear ho hr
  have hM0 := (Mem.start w).alloc #[.slice ao g.objs.length co, .slice ar g.roots.length cr] 25
  have hM1 := hM0.allocAt (w.heap.size + 1) (by simp) #[.int .i64 (p : Int), .int .i64 (q : Int)] 65
  obtain ⟨op, hop⟩ := get_some _ _ hp
  obtain ⟨oq, hoq⟩ := get_some _ _ hq
  have Hfp : Hid (fieldsAt g (p : Int) = op) := Lib.hid (by unfold fieldsAt; rw [Int.toNat_natCast, List.getD_eq_getElem?_getD, hop]; rfl)
  have Hfq : Hid (fieldsAt g (q : Int) = oq) := Lib.hid (by unfold fieldsAt; rw [Int.toNat_natCast, List.getD_eq_getElem?_getD, hoq]; rfl)
  obtain ⟨bo, oo, _, up, hv, hbo, hn1, c1, hup⟩ := Ho.out.at hM1.below hop
  cases hv
  obtain ⟨_, _, _, uq, hv, _, hn2, c2, huq⟩ := Ho.out.at hM1.below hoq
  cases hv
  have Hup := Lib.hid hup
  have Huq := Lib.hid huq
  have d2 : w.cell? ⟨bo, oo + q, none⟩ = some uq := (hM1.below.cell (p := ⟨_, _, none⟩) hbo).symm.trans c2
  clear hop hoq hup huq hM0
  unfold pairV
  go_enter Try.func64, Try.ntmps64
  go_wp2_with fail
  refine (sfield_any up op k _ (Hup.out.later hM1.below)).mono ?_
  rintro e w1 ⟨he, hb1⟩
  obtain ⟨X, hX⟩ : ∃ X, X = op[k]? := ⟨_, rfl⟩
  rw [← hX] at he
  have HX : Hid (fld g p k = X) := Lib.hid (by unfold fld; rw [Hfp.out, hX])
  obtain ⟨xr, hxr⟩ : ∃ xr, xr = (atV X).ref := ⟨_, rfl⟩
  obtain ⟨xn, hxn⟩ : ∃ xn, xn = (atV X).n := ⟨_, rfl⟩
  obtain ⟨xi, hxi⟩ : ∃ xi, xi = X.isSome := ⟨_, rfl⟩
  rw [atE, ← hxr, ← hxn, ← hxi] at he
  have Hxr := Lib.hid hxr
  have Hxn := Lib.hid hxn
  have Hxi := Lib.hid hxi
  subst he
  clear hX hxr hxn hxi
  have hM2 := hM1.call hb1
  have hsz1 : w.heap.size + 1 < w1.heap.size := (hM2.box 0 rfl).2.1
  have hsz0 : w.heap.size < w1.heap.size := by omega
  have hbo1 : bo < w1.heap.size := Nat.lt_of_lt_of_le hbo hM2.below.size
  obtain ⟨p0, p1⟩ := hM2.cells2 1 rfl
  obtain ⟨p2, p3⟩ := hM2.cells2 0 rfl
  have c3 : w1.cell? ⟨bo, oo + q, none⟩ = some uq := (hM2.below.cell (p := ⟨_, _, none⟩) hbo).trans d2
  have hM3 := hM2.alloc #[.bool xr, .int .i64 xn] 67
  go_wp2_with fail
  refine (sfield_any uq oq k _ (Huq.out.later hM3.below)).mono ?_
  rintro e w2 ⟨he, hb2⟩
  obtain ⟨Y, hY⟩ : ∃ Y, Y = oq[k]? := ⟨_, rfl⟩
  rw [← hY] at he
  have HY : Hid (fld g q k = Y) := Lib.hid (by unfold fld; rw [Hfq.out, hY])
  obtain ⟨yr, hyr⟩ : ∃ yr, yr = (atV Y).ref := ⟨_, rfl⟩
  obtain ⟨yn, hyn⟩ : ∃ yn, yn = (atV Y).n := ⟨_, rfl⟩
  obtain ⟨yi, hyi⟩ : ∃ yi, yi = Y.isSome := ⟨_, rfl⟩
  rw [atE, ← hyr, ← hyn, ← hyi] at he
  have Hyr := Lib.hid hyr
  have Hyn := Lib.hid hyn
  have Hyi := Lib.hid hyi
  subst he
  clear hY hyr hyn hyi
  have hM4 := hM3.call hb2
  obtain ⟨q0, q1⟩ := hM4.cells2 0 rfl
  have hM5 := hM4.alloc #[.bool yr, .int .i64 yn] 67
  have hbe := Lib.hid hM5.below
  have hs2 : w1.heap.size < w2.heap.size := (hM4.box 0 rfl).2.1
  have hD : Hid (differB X Y = ((xi != yi) || (!(xr && yr) && decide ((⟨xr, xn⟩ : V) ≠ ⟨yr, yn⟩)))) := Lib.hid (by
    rw [differB, ← Hxi.out, ← Hyi.out, ← Hxr.out, ← Hyr.out]
    have e1 : (⟨xr, xn⟩ : V) = atV X := by rw [Hxr.out, Hxn.out]
    have e2 : (⟨yr, yn⟩ : V) = atV Y := by rw [Hyr.out, Hyn.out]
    rw [e1, e2])
  clear hM1 hM2 hM3 hM4 hM5 hb1 hb2 c1 c2 c3 d2 p0 p1 p2 p3
  by_cases hxy : xn = yn
  · subst hxy
    cases xi <;> cases yi <;> cases xr <;> cases yr
    all_goals
      go_wp2
      go_ret
      rw [HX.out, HY.out, hD.out]
      exact ⟨by simp, hbe.out⟩
  · cases xi <;> cases yi <;> cases xr <;> cases yr
    all_goals
      go_wp2
      go_ret
      rw [HX.out, HY.out, hD.out]
      exact ⟨by simp [hxy], hbe.out⟩
end Go.Proofs.Ytdmgpiimacnapaa
