/- ragpickerkeep.along, field, tells. -/
import Derived.Test.YtjeaaiklbefmmaaHc
import Derived.StillTailTactics
namespace Go.Proofs.Ytjeaaiklbefmmaa
open Go.RowKit Go.Shelf

/-- The object to which a way of fields comes from one. -/
def alongG (g : G) : Int → List Int → Option Int
  | i, [] => some i
  | i, k :: ks => match fldI g i k with
    | some v => if v.ref then alongG g v.n ks else none
    | none => none
theorem alongG_in {g : G} (hG : Good g) : ∀ (l : List Int) (i j : Int), (0 ≤ i ∧ i < g.objs.length) → alongG g i l = some j → 0 ≤ j ∧ j < g.objs.length
  | [], i, j, hi, h => by cases h; exact hi
  | k :: ks, i, j, hi, h => by
    unfold alongG at h
    split at h
    · rename_i v hv
      split at h
      · rename_i hr
        refine alongG_in hG ks v.n j ?_ h
        obtain ⟨r, n⟩ := v
        simp only at hr
        subst hr
        unfold fldI at hv
        split at hv
        · exact fld_in hG hv
        · cases hv
      · cases h
    · cases h
theorem wt_snoc {g : G} : ∀ (l : List Int) (a b k : Int), wayTells g (a, b) (l ++ [k]) ↔ ∃ x y, alongG g a l = some x ∧ alongG g b l = some y ∧ clsV (fldI g x k) ≠ clsV (fldI g y k)
  | [], a, b, k => by
    show clsV (fldI g a k) ≠ clsV (fldI g b k) ↔ _
    constructor
    · intro h; exact ⟨a, b, rfl, rfl, h⟩
    · rintro ⟨x, y, h1, h2, h⟩; cases h1; cases h2; exact h
  | z :: l, a, b, k => by
    obtain ⟨k2, ks, hk⟩ : ∃ k2 ks, l ++ [k] = k2 :: ks := by
      cases h : l ++ [k] with
      | nil => simp at h
      | cons k2 ks => exact ⟨k2, ks, rfl⟩
    have ih := fun x y => wt_snoc (g := g) l x y k
    rw [hk] at ih
    show wayTells g (a, b) (z :: (l ++ [k])) ↔ _
    rw [hk]
    constructor
    · rintro ⟨x, y, hx, hy, h⟩
      obtain ⟨x2, y2, h1, h2, h3⟩ := (ih x y).1 h
      refine ⟨x2, y2, ?_, ?_, h3⟩
      · unfold alongG; simp only at hx; rw [hx]; exact h1
      · unfold alongG; simp only at hy; rw [hy]; exact h2
    · rintro ⟨x2, y2, h1, h2, h3⟩
      unfold alongG at h1 h2
      split at h1
      · rename_i v hv
        split at h2
        · rename_i u hu
          obtain ⟨r, n⟩ := v
          obtain ⟨s, n'⟩ := u
          cases r
          · simp at h1
          · cases s
            · simp at h2
            · exact ⟨n, n', hv, hu, (ih n n').2 ⟨x2, y2, h1, h2, h3⟩⟩
        · cases h2
      · cases h1

def alongV (o : Option Int) : Value := .tuple #[.int .i64 (o.getD 0), .bool o.isSome]
set_option maxRecDepth 100000 in
set_option maxHeartbeats 4000000 in
theorem along_in (g : G) (hG : Good g) (v : Value) (i : Nat) (u : Value) (way : List Int) (w : World) (hg : IsGraph w v g) (hu : IsInts w u way) (hi : i < g.objs.length) :
    Calls Try.prog 59 #[v, .int .i64 i, u] w fun e w' => e = .returned (alongV (alongG g i way)) ∧ Below w.heap.size w w' := by
  obtain ⟨vo, vr, rfl, ho, hr⟩ := hg
  obtain ⟨ao, co, rfl, hlo⟩ := ho.slice
  obtain ⟨ar, cr, rfl, hlr⟩ := hr.slice
  obtain ⟨au, cu, rfl, hlu⟩ := hu.slice
  have hn := hG.objs
  have Ho := Lib.hid ho
  have Hu := Lib.hid hu
  clear ho hr hu
  have hM0 := (Mem.start w).alloc #[.slice ao g.objs.length co, .slice ar g.roots.length cr] 25
  obtain ⟨R, hR⟩ : ∃ R, alongG g i way = R := ⟨_, rfl⟩
  rw [hR]
  have HR := Lib.hid hR
  clear hR
  go_enter Try.func59, Try.ntmps59
  go_wp2
  go_loopw [1, 12] (fun s iv wr => ∃ (k q : Nat), k ≤ way.length ∧ iv = .int .i64 k ∧ s = .int .i64 (q : Int) ∧ q < g.objs.length ∧ alongG g q (way.drop k) = R ∧
    Mem w.heap.size w wr [ebox w.heap.size #[.slice ao g.objs.length co, .slice ar g.roots.length cr] 25]) (fun _ iv _ => way.length - (intOf iv).toNat)
  case atStart => exact ⟨0, i, Nat.zero_le _, rfl, rfl, hi, HR.out, hM0⟩
  case round =>
    obtain ⟨k, q, hk, rfl, rfl, hq, hy, hM⟩ := hrel
    obtain ⟨p0, p1⟩ := hM.cells2 0 rfl
    have HM := Lib.hid hM
    have Hy := Lib.hid hy
    have hbn := hM.below
    have z0 : w.heap.size < wr.heap.size := (hM.box 0 rfl).2.1
    clear hy
    by_cases hlt : k < way.length
    · obtain ⟨z, hz⟩ := get_some _ _ hlt
      obtain ⟨bz, oz, cz, hv, hbz, hnz, d3, _⟩ := Hu.out.at hM.below hz
      cases hv
      have HD := Lib.hid (drop_some hz)
      obtain ⟨o, hob⟩ := get_some _ _ hq
      have hfo : fieldsAt g (q : Int) = o := by unfold fieldsAt; rw [Int.toNat_natCast, List.getD_eq_getElem?_getD, hob]; rfl
      obtain ⟨bo, oo, cap3, uo, hv2, hbo, hn3, d4, huo⟩ := Ho.out.at HM.out.below hob
      cases hv2
      obtain ⟨af, cf, rfl, hlf⟩ := huo.slice
      have Huo := Lib.hid huo
      have Hfo := Lib.hid hfo
      clear hob huo hfo hz hM
      have hnone : (fldI g q z = none ∨ ∃ n, fldI g q z = some ⟨false, n⟩) → R = none := by
        intro hc
        have := Hy.out
        rw [HD.out, alongG] at this
        rcases hc with hc | ⟨n, hc⟩
        · rw [hc] at this; exact this.symm
        · rw [hc] at this; simpa using this.symm
      have Hnone := Lib.hid hnone
      clear hnone
      by_cases g2 : z < 0
      · have HN := Lib.hid (Hnone.out (.inl (by unfold fldI; rw [if_neg (by omega)])))
        go_wp2
        refine bodyPost_ret (v := .tuple #[.int .i64 0, .bool false]) (by simp [results, Try.results59, go_sem]) rfl ⟨by rw [HN.out]; rfl, hbn⟩
      · by_cases g3 : (o.length : Int) ≤ z
        · have HN := Lib.hid (Hnone.out (.inl (by unfold fldI fld; rw [if_pos (by omega), Hfo.out]; exact List.getElem?_eq_none (by omega))))
          go_wp2
          refine bodyPost_ret (v := .tuple #[.int .i64 0, .bool false]) (by simp [results, Try.results59, go_sem]) rfl ⟨by rw [HN.out]; rfl, hbn⟩
        · obtain ⟨j, rfl⟩ : ∃ j : Nat, z = (j : Int) := ⟨z.toNat, by omega⟩
          have hj : j < o.length := by omega
          obtain ⟨y2, hy2⟩ := get_some _ _ hj
          obtain ⟨bf, off, capf, hv3, hbf, hnf, d5, d6, _⟩ := Huo.out.at HM.out.below hy2
          cases hv3
          obtain ⟨r, n⟩ := y2
          have hfl : fldI g q j = some ⟨r, n⟩ := by unfold fldI fld; rw [if_pos (by omega), Hfo.out, Int.toNat_natCast, hy2]
          cases r
          · have HN := Lib.hid (Hnone.out (.inr ⟨n, hfl⟩))
            clear hfl hy2
            go_wp2
            refine bodyPost_ret (v := .tuple #[.int .i64 0, .bool false]) (by simp [results, Try.results59, go_sem]) rfl ⟨by rw [HN.out]; rfl, hbn⟩
          · have hin : 0 ≤ n ∧ n < g.objs.length := by
              have h2 := hfl
              unfold fldI at h2
              rw [if_pos (by omega)] at h2
              exact fld_in hG h2
            obtain ⟨n', rfl⟩ : ∃ i : Nat, n = (i : Int) := ⟨n.toNat, by omega⟩
            have hnl : n' < g.objs.length := by omega
            have hy3 : alongG g (n' : Int) (way.drop (k + 1)) = R := by
              have h2 := Hy.out
              rw [HD.out, alongG, hfl] at h2
              exact h2
            have Hy3 := Lib.hid hy3
            clear hy3 hfl hy2 hin
            go_wp2
            go_roundw
            case rel => exact ⟨k + 1, n', by omega, by go_num, rfl, hnl, Hy3.out, HM.out⟩
            case measure => simp [intOf]; omega
    · obtain rfl : k = way.length := by omega
      have hRe : R = some (q : Int) := by
        have := Hy.out
        rw [List.drop_length] at this
        exact this.symm
      have HRe := Lib.hid hRe
      have hb2 : Below w.heap.size w wr.drew := hbn.drew
      have hbd : ∀ n, Below w.heap.size w (wr.drewN n) := fun n => below_drewN hbn n
      have Hbd := Lib.hid hbd
      have hd1 : decide ((0 : Int) ≤ (q : Int)) = true := by simp
      have hd2 : decide ((q : Int) < (g.objs.length : Int)) = true := by simp; omega
      clear hRe hM hbd hb2
      go_wp2
      go_quiet (fail)
      go_wp2
      refine bodyPost_ret (v := .tuple #[.int .i64 (q : Int), .bool true]) (by simp [results, Try.results59, go_sem]) rfl ⟨by rw [HRe.out]; rfl, Hbd.out _⟩

theorem isInts_butlast {w : World} {a : Option Addr} {n c : Nat} {l : List Int} {k : Int} (h : IsInts w (.slice a n c) (l ++ [k])) : IsInts w (.slice a l.length c) l := by
  obtain ⟨a', c', hv, hl, hc⟩ := h
  cases hv
  refine ⟨_, _, rfl, by simp at hl; omega, ?_⟩
  intro j x hx
  exact hc j x (by rw [List.getElem?_append_left (List.getElem?_eq_some_iff.1 hx).1]; exact hx)

/-- A field's value; none: there is none. -/
def fldL (l : List V) (k : Int) : Option V := if 0 ≤ k then l[k.toNat]? else none
set_option maxRecDepth 100000 in
set_option maxHeartbeats 1000000 in
theorem kfield_any (u : Value) (l : List V) (k : Int) (w : World) (hu : IsVals w u l) :
    Calls Try.prog 60 #[.agg #[u], .int .i64 k] w fun e w' => atE (fldL l k) e ∧ Below w.heap.size w w' := by
  obtain ⟨a, c, rfl, hl⟩ := hu.slice
  have Hu := Lib.hid hu
  clear hu
  have hM0 := (Mem.start w).alloc #[.slice a l.length c] 33
  have hM1 := hM0.allocAt (w.heap.size + 1) (by simp) #[.bool false, .int .i64 0] 35
  have hb1 := Lib.hid hM1.below
  clear hM1
  by_cases h0 : k < 0
  · have Hx : Hid (fldL l k = none) := Lib.hid (by unfold fldL; rw [if_neg (by omega)])
    go_enter Try.func60, Try.ntmps60
    go_wp2
    refine bodyPost_ret (v := .tuple #[.agg #[.bool false, .int .i64 0], .bool false]) (by simp [results, Try.results60, go_sem]) rfl ⟨by rw [Hx.out]; rfl, hb1.out⟩
  · obtain ⟨j, rfl⟩ : ∃ j : Nat, k = (j : Int) := ⟨k.toNat, by omega⟩
    by_cases hk : j < l.length
    · obtain ⟨x, hx⟩ := get_some _ _ hk
      obtain ⟨b, off, cap, hv, hb, hn, c1, c2, _⟩ := Hu.out.at hM0.below hx
      cases hv
      have Hx : Hid (fldL l j = some x) := Lib.hid (by unfold fldL; rw [if_pos (by omega), Int.toNat_natCast]; exact hx)
      clear hx
      have hM1 := hM0.allocAt (w.heap.size + 1) (by simp) #[.bool x.ref, .int .i64 x.n] 35
      have hb2 := Lib.hid hM1.below
      clear hM1
      go_enter Try.func60, Try.ntmps60
      go_wp2
      refine bodyPost_ret (v := .tuple #[.agg #[.bool x.ref, .int .i64 x.n], .bool true]) (by simp [results, Try.results60, go_sem]) rfl ⟨by rw [Hx.out]; rfl, hb2.out⟩
    · have Hx : Hid (fldL l j = none) := Lib.hid (by unfold fldL; rw [if_pos (by omega), Int.toNat_natCast]; exact List.getElem?_eq_none (Nat.le_of_not_lt hk))
      go_enter Try.func60, Try.ntmps60
      go_wp2
      refine bodyPost_ret (v := .tuple #[.agg #[.bool false, .int .i64 0], .bool false]) (by simp [results, Try.results60, go_sem]) rfl ⟨by rw [Hx.out]; rfl, hb1.out⟩
end Go.Proofs.Ytjeaaiklbefmmaa
