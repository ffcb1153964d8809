/- GraphWays: ways of fields. -/
import Derived.Test.YtjeaaiklbefmmaaLk
namespace Go.Proofs.Ytjeaaiklbefmmaa
open Go.RowKit Go.Shelf

/-- The value that a way of fields comes to. -/
def atWay (g : G) (v : V) : List Int → Option V
  | [] => some v
  | x :: xs => if v.ref = true ∧ 0 ≤ v.n ∧ v.n < g.objs.length ∧ 0 ≤ x ∧ x < (fieldsAt g v.n).length then atWay g ((fieldsAt g v.n).getD x.toNat default) xs else none
def atG (g : G) (root : Int) (way : List Int) : Option V := if 0 ≤ root ∧ root < g.roots.length then atWay g (g.roots.getD root.toNat default) way else none
def atV (o : Option V) : V := o.getD ⟨false, 0⟩
def atE (o : Option V) (e : Ending) : Prop := e = .returned (.tuple #[.agg #[.bool (atV o).ref, .int .i64 (atV o).n], .bool o.isSome])

theorem drop_some {l : List Int} {k : Nat} {x : Int} (h : l[k]? = some x) : l.drop k = x :: l.drop (k + 1) := by
  obtain ⟨hk, rfl⟩ := List.getElem?_eq_some_iff.1 h
  exact List.drop_eq_getElem_cons hk

set_option maxRecDepth 100000 in
set_option maxHeartbeats 4000000 in
theorem at_any (g : G) (v : Value) (root : Int) (u : Value) (way : List Int) (w : World) (hg : IsGraph w v g) (hu : IsInts w u way) :
    Calls Try.prog 19 #[v, .int .i64 root, u] w fun e w' => atE (atG g root way) e ∧ Below w.heap.size w w' := by
  obtain ⟨vo, vr, rfl, ho, hr⟩ := hg
  obtain ⟨ao, co, rfl, hlo⟩ := ho.slice
  obtain ⟨ar, cr, rfl, hlr⟩ := hr.slice
  obtain ⟨au, cu, rfl, hlu⟩ := hu.slice
  have Ho := Lib.hid ho
  have Hr := Lib.hid hr
  have Hu := Lib.hid hu
  clear ho hr hu
  have hM0 := ((Mem.start w).alloc #[.slice ao g.objs.length co, .slice ar g.roots.length cr] 25).allocAt (w.heap.size + 1) (by simp) #[.bool false, .int .i64 0] 35
  by_cases h0 : root < 0
  · have hR : atG g root way = none := by unfold atG; rw [if_neg (by omega)]
    have HR := Lib.hid hR
    clear hR
    go_enter Try.func19, Try.ntmps19
    go_wp2
    refine bodyPost_ret (v := .tuple #[.agg #[.bool false, .int .i64 0], .bool false]) (by simp [results, Try.results19, go_sem]) rfl ⟨by rw [HR.out]; rfl, hM0.below⟩
  · by_cases h1 : root < g.roots.length
    · obtain ⟨i, rfl⟩ : ∃ i : Nat, root = (i : Int) := ⟨root.toNat, by omega⟩
      have hi : i < g.roots.length := by omega
      obtain ⟨x, hx⟩ := get_some _ _ hi
      obtain ⟨bx, ox, cx, hv, hbx, hn, c1, c2, _⟩ := Hr.out.at hM0.below hx
      cases hv
      obtain ⟨R, hR⟩ : ∃ R, atG g i way = R := ⟨_, rfl⟩
      rw [hR]
      have hR2 : atWay g x way = R := by
        rw [← hR, atG, if_pos ⟨by omega, by omega⟩, Int.toNat_natCast, List.getD_eq_getElem?_getD, hx]; rfl
      have HR2 := Lib.hid hR2
      have d1 : w.cell? ⟨bx, ox + i * 2, none⟩ = some (.bool x.ref) := (hM0.below.cell (p := ⟨_, _, none⟩) hbx).symm.trans c1
      have d2 : w.cell? ⟨bx, ox + i * 2 + 1, none⟩ = some (.int .i64 x.n) := (hM0.below.cell (p := ⟨_, _, none⟩) hbx).symm.trans c2
      clear hx hR hR2 c1 c2 hn
      have hM1 := hM0.allocAt (w.heap.size + 2) (by simp) #[.bool x.ref, .int .i64 x.n] 35
      go_enter Try.func19, Try.ntmps19
      go_wp2
      go_loopw [28] (fun i wr => ∃ (k : Nat) (y : V), k ≤ way.length ∧ i = .int .i64 k ∧ atWay g y (way.drop k) = R ∧
        Mem w.heap.size w wr [ebox (w.heap.size + 2) #[.bool y.ref, .int .i64 y.n] 35, ebox (w.heap.size + 1) #[.bool false, .int .i64 0] 35, ebox w.heap.size #[.slice ao g.objs.length co, .slice (some ⟨bx, ox, none⟩) g.roots.length cr] 25]) (fun i _ => way.length - (intOf i).toNat)
      case atStart => exact ⟨0, x, Nat.zero_le _, rfl, HR2.out, hM1⟩
      case round =>
        obtain ⟨k, y, hk, rfl, hy, hM⟩ := hrel
        (have p_0 := hM.cells2 2 rfl; have p_1 := hM.cells2 1 rfl; have p_2 := hM.cells2 0 rfl; obtain ⟨pa, pb⟩ := p_0; obtain ⟨pc, pd⟩ := p_1; obtain ⟨pe, pf⟩ := p_2)
        have r0 : wr.frozen? ⟨w.heap.size + 1, 0, none⟩ = false := hM.free 1 rfl 0
        have r1 : wr.frozen? ⟨w.heap.size + 1, 1, none⟩ = false := hM.free 1 rfl 1
        have r2 : wr.frozen? ⟨w.heap.size + 2, 0, none⟩ = false := hM.free 0 rfl 0
        have r3 : wr.frozen? ⟨w.heap.size + 2, 1, none⟩ = false := hM.free 0 rfl 1
        have HM := Lib.hid hM
        have Hy := Lib.hid hy
        clear hy
        by_cases hlt : k < way.length
        · obtain ⟨z, hz⟩ := get_some _ _ hlt
          obtain ⟨bz, oz, cz, hv, hbz, hnz, d3, _⟩ := Hu.out.at hM.below hz
          cases hv
          have HD := Lib.hid (drop_some hz)
          clear hz hM
          obtain ⟨r, n⟩ := y
          have hMn := (HM.out.setBox 1 rfl 0 (.bool false)).setBox 1 rfl 1 (.int .i64 0)
          have hbn := hMn.below
          obtain ⟨e0, e1⟩ := hMn.cells2 (x := .bool false) (y := .int .i64 0) 1 rfl
          clear hMn
          have hnone : ¬ (r = true ∧ 0 ≤ n ∧ n < g.objs.length ∧ 0 ≤ z ∧ z < (fieldsAt g n).length) → R = none := by
            intro hc
            have := Hy.out
            rw [HD.out, atWay, if_neg hc] at this
            exact this.symm
          have Hnone := Lib.hid hnone
          clear hnone
          cases r
          · have HN := Lib.hid (Hnone.out (by simp))
            (go_wp2; refine bodyPost_ret (v := .tuple #[.agg #[.bool false, .int .i64 0], .bool false]) (by simp [results, Try.results19, go_sem, e0, e1]) rfl ⟨by rw [HN.out]; rfl, hbn⟩)
          · by_cases g0 : n < 0
            · have HN := Lib.hid (Hnone.out (by omega))
              (go_wp2; refine bodyPost_ret (v := .tuple #[.agg #[.bool false, .int .i64 0], .bool false]) (by simp [results, Try.results19, go_sem, e0, e1]) rfl ⟨by rw [HN.out]; rfl, hbn⟩)
            · by_cases g1 : (g.objs.length : Int) ≤ n
              · have HN := Lib.hid (Hnone.out (by omega))
                (go_wp2; refine bodyPost_ret (v := .tuple #[.agg #[.bool false, .int .i64 0], .bool false]) (by simp [results, Try.results19, go_sem, e0, e1]) rfl ⟨by rw [HN.out]; rfl, hbn⟩)
              · by_cases g2 : z < 0
                · have HN := Lib.hid (Hnone.out (by omega))
                  (go_wp2; refine bodyPost_ret (v := .tuple #[.agg #[.bool false, .int .i64 0], .bool false]) (by simp [results, Try.results19, go_sem, e0, e1]) rfl ⟨by rw [HN.out]; rfl, hbn⟩)
                · obtain ⟨q, rfl⟩ : ∃ q : Nat, n = (q : Int) := ⟨n.toNat, by omega⟩
                  have hq : q < g.objs.length := by omega
                  obtain ⟨o, hob⟩ := get_some _ _ hq
                  have hfo : fieldsAt g (q : Int) = o := by unfold fieldsAt; rw [Int.toNat_natCast, List.getD_eq_getElem?_getD, hob]; rfl
                  obtain ⟨bo, oo, cap3, uo, hv2, hbo, hn3, d4, huo⟩ := Ho.out.at HM.out.below hob
                  cases hv2
                  obtain ⟨af, cf, rfl, hlf⟩ := huo.slice
                  have Huo := Lib.hid huo
                  have Hfo := Lib.hid hfo
                  clear hob huo hfo
                  by_cases g3 : (o.length : Int) ≤ z
                  · have HN := Lib.hid (Hnone.out (by rw [Hfo.out]; omega))
                    (go_wp2; refine bodyPost_ret (v := .tuple #[.agg #[.bool false, .int .i64 0], .bool false]) (by simp [results, Try.results19, go_sem, e0, e1]) rfl ⟨by rw [HN.out]; rfl, hbn⟩)
                  · obtain ⟨j, rfl⟩ : ∃ j : Nat, z = (j : Int) := ⟨z.toNat, by omega⟩
                    have hj : j < o.length := by omega
                    obtain ⟨y2, hy2⟩ := get_some _ _ hj
                    obtain ⟨bf, off, capf, hv3, hbf, hnf, d5, d6, _⟩ := Huo.out.at HM.out.below hy2
                    cases hv3
                    have hR3 : atWay g y2 (way.drop (k + 1)) = R := by
                      have h := Hy.out
                      rw [HD.out, atWay, if_pos ⟨rfl, by simp only; omega, by simp only; omega, by omega, by simp only; rw [Hfo.out]; omega⟩] at h
                      simp only at h
                      rw [Hfo.out, Int.toNat_natCast, List.getD_eq_getElem?_getD, hy2] at h
                      exact h
                    have HR3 := Lib.hid hR3
                    have HMs := Lib.hid ((HM.out.setBox 0 rfl 0 (.bool y2.ref)).setBox 0 rfl 1 (.int .i64 y2.n))
                    clear hy2 hR3
                    go_wp2
                    go_roundw
                    case rel => exact ⟨k + 1, y2, by omega, by go_num, HR3.out, HMs.out⟩
                    case measure => simp [intOf]; omega
        · obtain rfl : k = way.length := by omega
          have hRe : R = some y := by
            have := Hy.out
            rw [List.drop_length] at this
            exact this.symm
          have HRe := Lib.hid hRe
          have hMs := (HM.out.setBox 1 rfl 0 (.bool y.ref)).setBox 1 rfl 1 (.int .i64 y.n)
          obtain ⟨e0, e1⟩ := hMs.cells2 (x := .bool y.ref) (y := .int .i64 y.n) 1 rfl
          have hbs := hMs.below
          clear hRe hMs hM
          go_wp2
          refine bodyPost_ret (v := .tuple #[.agg #[.bool y.ref, .int .i64 y.n], .bool true]) (by simp [results, Try.results19, go_sem, e0, e1]) rfl ⟨by rw [HRe.out]; rfl, hbs⟩
    · have hR : atG g root way = none := by unfold atG; rw [if_neg (by omega)]
      have HR := Lib.hid hR
      have h2 : (g.roots.length : Int) ≤ root := by omega
      clear hR
      go_enter Try.func19, Try.ntmps19
      go_wp2
      refine bodyPost_ret (v := .tuple #[.agg #[.bool false, .int .i64 0], .bool false]) (by simp [results, Try.results19, go_sem]) rfl ⟨by rw [HR.out]; rfl, hM0.below⟩
end Go.Proofs.Ytjeaaiklbefmmaa
