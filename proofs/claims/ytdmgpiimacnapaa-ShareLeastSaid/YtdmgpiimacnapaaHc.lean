/- share.tells. -/
import Derived.Test.YtdmgpiimacnapaaHb
namespace Go.Proofs.Ytdmgpiimacnapaa
open Go.RowKit Go.Shelf

theorem vals_ok {w : World} {u : Value} {l : List V} (h : IsVals w u l) {k : Nat} {X : Option V} (hX : X = l[k]?) : i64ok (atV X).n := by
  subst hX
  cases hx : l[k]? with
  | none => simp [atV, i64ok]
  | some x => exact h.ok x (List.mem_of_getElem? hx)

set_option maxRecDepth 100000 in
set_option maxHeartbeats 4000000 in
theorem stells_any (g : G) (v : Value) (b cnt : Nat) (m : Int × Int → Option Nat) (p q k n : Nat) (w : World) (hg : IsGraph w v g) (hm : (gmap mapPair b cnt (mapF m)).ok 0 w) (hp : p < g.objs.length) (hq : q < g.objs.length) (hn : 1 ≤ n) (hn2 : n ≤ 100000) :
    Calls Try.prog 40 #[v, .map (some b), pairV (p, q), .int .i64 k, .int .i64 n] w fun e w' => ∃ t : Bool, e = .returned (.bool t) ∧ (t = true ↔ tellsP g m (p, q) k n) ∧ Below w.heap.size w w' := by
  have Hg := Lib.hid hg
  obtain ⟨vo, vr, rfl, ho, hr⟩ := hg
  obtain ⟨ao, co, rfl, hlo⟩ := ho.slice
  obtain ⟨ar, cr, rfl, hlr⟩ := hr.slice
  have Ho := Lib.hid ho
  have Hm := Lib.hid hm
  clear ho hr hm
  have hM0 := (Mem.start w).alloc #[.slice ao g.objs.length co, .slice ar g.roots.length cr] 25
  have hM1 := hM0.allocAt (w.heap.size + 1) (by simp) #[.int .i64 (p : Int), .int .i64 (q : Int)] 65
  by_cases h1 : n = 1
  · subst h1
    have hT : ∀ t : Bool, t = differB (fld g p k) (fld g q k) → (t = true ↔ tellsP g m (p, q) k 1) := by
      intro t ht
      rw [tellsP, if_pos rfl, ht]
      exact differ_iff _ _
    have HT := Lib.hid hT
    clear hT
    unfold pairV
    go_enter Try.func40, Try.ntmps40
    go_wp2_with fail
    refine (differ_any g _ p q k _ (Hg.out.later hM1.below) hp hq).mono ?_
    rintro e w1 ⟨rfl, hb1⟩
    have hbe := Lib.hid (hM1.call hb1).below
    go_wp2
    go_ret
    exact ⟨_, rfl, HT.out _ rfl, hbe.out⟩
  · have hz1 : ((n : Int) == 1) = false := by simp; omega
    have hzn : ¬ (n : Int) = 1 := by omega
    obtain ⟨op, hop⟩ := get_some _ _ hp
    obtain ⟨oq, hoq⟩ := get_some _ _ hq
    have Hfp : Hid (fieldsAt g (p : Int) = op) := Lib.hid (by unfold fieldsAt; rw [Int.toNat_natCast, List.getD_eq_getElem?_getD, hop]; rfl)
    have Hfq : Hid (fieldsAt g (q : Int) = oq) := Lib.hid (by unfold fieldsAt; rw [Int.toNat_natCast, List.getD_eq_getElem?_getD, hoq]; rfl)
    obtain ⟨bo, oo, _, up, hv, hbo, hn1, c1, hup⟩ := Ho.out.at hM1.below hop
    cases hv
    obtain ⟨_, _, _, uq, hv, _, hn2', c2, huq⟩ := Ho.out.at hM1.below hoq
    cases hv
    have Hup := Lib.hid hup
    have Huq := Lib.hid huq
    have d2 : w.cell? ⟨bo, oo + q, none⟩ = some uq := (hM1.below.cell (p := ⟨_, _, none⟩) hbo).symm.trans c2
    clear hop hoq hup huq hM0
    unfold pairV
    go_enter Try.func40, Try.ntmps40
    go_wp2_with fail
    refine (sfield_any up op k _ (Hup.out.later hM1.below)).mono ?_
    rintro e w1 ⟨he, hb1⟩
    obtain ⟨X, hX⟩ : ∃ X, X = op[k]? := ⟨_, rfl⟩
    rw [← hX] at he
    have HX : Hid (fld g p k = X) := Lib.hid (by unfold fld; rw [Hfp.out, hX])
    obtain ⟨xr, hxr⟩ : ∃ xr, xr = (atV X).ref := ⟨_, rfl⟩
    obtain ⟨xn, hxn⟩ : ∃ xn, xn = (atV X).n := ⟨_, rfl⟩
    obtain ⟨xi, hxi⟩ : ∃ xi, xi = X.isSome := ⟨_, rfl⟩
    have Hxo : Hid (i64ok xn) := Lib.hid (by rw [hxn]; exact vals_ok Hup.out hX)
    rw [atE, ← hxr, ← hxn, ← hxi] at he
    have Hxr := Lib.hid hxr
    have Hxn := Lib.hid hxn
    have Hxi := Lib.hid hxi
    subst he
    clear hX hxr hxn hxi
    have hM2 := hM1.call hb1
    have hsz1 : w.heap.size + 1 < w1.heap.size := (hM2.box 0 rfl).2.1
    have hsz0 : w.heap.size < w1.heap.size := by omega
    have hbo1 : bo < w1.heap.size := Nat.lt_of_lt_of_le hbo hM2.below.size
    obtain ⟨p0, p1⟩ := hM2.cells2 1 rfl
    obtain ⟨p2, p3⟩ := hM2.cells2 0 rfl
    have c3 : w1.cell? ⟨bo, oo + q, none⟩ = some uq := (hM2.below.cell (p := ⟨_, _, none⟩) hbo).trans d2
    have hM3 := hM2.alloc #[.bool xr, .int .i64 xn] 67
    go_wp2_with fail
    refine (sfield_any uq oq k _ (Huq.out.later hM3.below)).mono ?_
    rintro e w2 ⟨he, hb2⟩
    obtain ⟨Y, hY⟩ : ∃ Y, Y = oq[k]? := ⟨_, rfl⟩
    rw [← hY] at he
    have HY : Hid (fld g q k = Y) := Lib.hid (by unfold fld; rw [Hfq.out, hY])
    obtain ⟨yr, hyr⟩ : ∃ yr, yr = (atV Y).ref := ⟨_, rfl⟩
    obtain ⟨yn, hyn⟩ : ∃ yn, yn = (atV Y).n := ⟨_, rfl⟩
    obtain ⟨yi, hyi⟩ : ∃ yi, yi = Y.isSome := ⟨_, rfl⟩
    have Hyo : Hid (i64ok yn) := Lib.hid (by rw [hyn]; exact vals_ok Huq.out hY)
    rw [atE, ← hyr, ← hyn, ← hyi] at he
    have Hyr := Lib.hid hyr
    have Hyn := Lib.hid hyn
    have Hyi := Lib.hid hyi
    subst he
    clear hY hyr hyn hyi
    have hM4 := hM3.call hb2
    obtain ⟨q0, q1⟩ := hM4.cells2 0 rfl
    have hM5 := hM4.alloc #[.bool yr, .int .i64 yn] 67
    have hbe := Lib.hid hM5.below
    have hs2 : w1.heap.size < w2.heap.size := (hM4.box 0 rfl).2.1
    have hT : tellsP g m (p, q) k n ↔ ((xi = true ∧ xr = true) ∧ (yi = true ∧ yr = true) ∧ (m (xn, yn)).getD 0 + 1 = n) := by
      rw [tellsP, if_neg h1, HX.out, HY.out, Hxi.out, Hxr.out, Hyi.out, Hyr.out, Hxn.out, Hyn.out]
      constructor
      · rintro ⟨x, y, rfl, rfl, h5⟩
        exact ⟨⟨rfl, rfl⟩, ⟨rfl, rfl⟩, h5⟩
      · rintro ⟨⟨h2, h3⟩, ⟨h4, h5⟩, h6⟩
        obtain ⟨x, rfl⟩ := Option.isSome_iff_exists.1 h2
        obtain ⟨y, rfl⟩ := Option.isSome_iff_exists.1 h4
        obtain ⟨xr', xn'⟩ := x
        obtain ⟨yr', yn'⟩ := y
        simp [atV] at h3 h5 h6
        subst h3 h5
        exact ⟨xn', yn', rfl, rfl, h6⟩
    have HT := Lib.hid hT
    have hl := (gmap_look (gmap_later Hm.out hM5.below) (x := (xn, yn)) ⟨Hxo.out, Hyo.out⟩).1
    simp only [mapPair, pairV, mapF] at hl
    obtain ⟨j, hj⟩ : ∃ j, j = (m (xn, yn)).getD 0 := ⟨_, rfl⟩
    have hj2 : ((m (xn, yn)).map fun j => Value.int .i64 (j : Int)).getD (.int .i64 0) = .int .i64 (j : Int) := by rw [hj]; cases m (xn, yn) <;> rfl
    rw [hj2] at hl
    have Hj := Lib.hid hj
    have hw1 : IntKind.wrap .i64 ((n : Int) - 1) = (n : Int) - 1 := by simp [IntKind.wrap, IntKind.bits, IntKind.signed]; omega
    clear hM1 hM2 hM3 hM4 hM5 hb1 hb2 c1 c2 c3 d2 p0 p1 p2 p3 hT hj hj2
    by_cases hxx : xi = true ∧ xr = true
    · by_cases hyy : yi = true ∧ yr = true
      · obtain ⟨rfl, rfl⟩ := hxx
        obtain ⟨rfl, rfl⟩ := hyy
        by_cases hjn : (j : Int) = (n : Int) - 1
        · have hF := HT.out.2 ⟨⟨rfl, rfl⟩, ⟨rfl, rfl⟩, by rw [← Hj.out]; omega⟩
          have HF := Lib.hid hF
          clear hF
          go_wp2
          go_ret
          exact ⟨true, rfl, ⟨fun _ => HF.out, fun _ => rfl⟩, hbe.out⟩
        · have hF : ¬ tellsP g m (p, q) k n := fun h => hjn (by have h2 := (HT.out.1 h).2.2; rw [← Hj.out] at h2; omega)
          have HF := Lib.hid hF
          clear hF
          go_wp2
          go_ret
          exact ⟨_, rfl, ⟨fun h => (hjn (by simpa using h)).elim, fun h => (HF.out h).elim⟩, hbe.out⟩
      · obtain ⟨rfl, rfl⟩ := hxx
        have hF : ¬ tellsP g m (p, q) k n := fun h => hyy (HT.out.1 h).2.1
        have HF := Lib.hid hF
        clear hF
        cases yi <;> cases yr <;> simp at hyy
        all_goals
          go_wp2
          go_ret
          exact ⟨_, rfl, ⟨fun h => by simp at h, fun h => (HF.out h).elim⟩, hbe.out⟩
    · have hF : ¬ tellsP g m (p, q) k n := fun h => hxx (HT.out.1 h).1
      have HF := Lib.hid hF
      clear hF
      cases xi <;> cases xr <;> simp at hxx
      all_goals
        cases yi <;> cases yr
      all_goals
        go_wp2
        go_ret
        exact ⟨_, rfl, ⟨fun h => by simp at h, fun h => (HF.out h).elim⟩, hbe.out⟩
end Go.Proofs.Ytdmgpiimacnapaa
