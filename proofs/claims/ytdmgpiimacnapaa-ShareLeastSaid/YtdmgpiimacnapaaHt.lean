/- share.Told, walked. -/
import Derived.Test.YtdmgpiimacnapaaHg
import Derived.Deep.LoopGhost
namespace Go.Proofs.Ytdmgpiimacnapaa
open Go.RowKit Go.Shelf

set_option maxRecDepth 100000 in
set_option maxHeartbeats 1000000 in
theorem told_no (g : G) (v : Value) (a b : Int) (w : World) (hg : IsGraph w v g) (hG : ¬ Good g) :
    Calls Try.prog 19 #[v, .int .i64 a, .int .i64 b] w fun e w' => (∃ c : Int, (c == 0) = false ∧ e = .returned (.tuple #[.slice none 0 0, .bool false, .int .i64 c])) ∧ Below w.heap.size w w' := by
  have Hg := Lib.hid hg
  obtain ⟨vo, vr, rfl, ho, hr⟩ := hg
  obtain ⟨ao, co, rfl, hlo⟩ := ho.slice
  obtain ⟨ar, cr, rfl, hlr⟩ := hr.slice
  have HG := Lib.hid hG
  clear ho hr hG
  have hM0 := (Mem.start w).alloc #[.slice ao g.objs.length co, .slice ar g.roots.length cr] 25
  go_enter Try.func19, Try.ntmps19
  go_wp2_with fail
  go_step3
  go_wp2_with fail
  refine (gcheck_no _ g _ (Hg.out.later hM0.below) HG.out).mono ?_
  rintro e w1 ⟨⟨c, rfl, hc⟩, hb1⟩
  have hM1 := hM0.call hb1
  go_wp2
  try rw [Exit.noGoto_ret]
  refine bodyPost_ret (v := .tuple #[.slice none 0 0, .bool false, .int .i64 c]) (by simp [results, Try.results19, go_sem]) rfl ⟨⟨c, hc, rfl⟩, hM1.below⟩

theorem inO_mk {g : G} {a b : Int} (h1 : 0 ≤ a) (h2 : a < g.objs.length) (h3 : 0 ≤ b) (h4 : b < g.objs.length) : inO g (a, b) := ⟨⟨h1, h2⟩, h3, h4⟩
set_option maxRecDepth 100000 in
set_option maxHeartbeats 1000000 in
theorem told_off (g : G) (hG : Good g) (v : Value) (a b : Int) (w : World) (hg : IsGraph w v g) (hab : ¬ inO g (a, b)) :
    Calls Try.prog 19 #[v, .int .i64 a, .int .i64 b] w fun e w' => e = .returned (.tuple #[.slice none 0 0, .bool false, .int .i64 2]) ∧ Below w.heap.size w w' := by
  have Hg := Lib.hid hg
  obtain ⟨vo, vr, rfl, ho, hr⟩ := hg
  obtain ⟨ao, co, rfl, hlo⟩ := ho.slice
  obtain ⟨ar, cr, rfl, hlr⟩ := hr.slice
  have Hab := Lib.hid hab
  clear ho hr hab
  have hM0 := (Mem.start w).alloc #[.slice ao g.objs.length co, .slice ar g.roots.length cr] 25
  have hcmp : a < b ∨ a = b ∨ b < a := by omega
  rcases hcmp with h | h | h
  all_goals
    try subst h
    go_enter Try.func19, Try.ntmps19
    go_wp2_with fail
    go_step3
    go_wp2_with fail
    refine (gcheck_yes _ g _ (Hg.out.later hM0.below) hG).mono ?_
    rintro e w1 ⟨rfl, hb1⟩
    have hM1 := hM0.call hb1
    obtain ⟨p0, p1⟩ := hM1.cells2 0 rfl
    go_wp2_with fail
    all_goals
      first
      | (try rw [Exit.noGoto_ret]
         refine bodyPost_ret (v := .tuple #[.slice none 0 0, .bool false, .int .i64 2]) (by simp [results, Try.results19, go_sem]) rfl ⟨rfl, hM1.below⟩)
      | (exfalso; exact Hab.out (inO_mk (by omega) (by omega) (by omega) (by omega)))

theorem mapF_get (m : Int × Int → Option Nat) (p : Int × Int) : (mapF m p).getD (.int .i64 0) = .int .i64 (((m p).getD 0 : Nat) : Int) ∧ (mapF m p).isSome = (m p).isSome := by
  unfold mapF
  cases m p <;> exact ⟨rfl, rfl⟩
/-- What is still to be told of a way. -/
def Tail (g : G) (m : Int × Int → Option Nat) (n0 : Nat) (p0 : Int × Int) (done : List Int) (n : Nat) (p : Int × Int) : Prop := ∀ l', WayS g m n p l' → WayS g m n0 p0 (done ++ l')
theorem Tail.step {g : G} {m : Int × Int → Option Nat} {n0 : Nat} {p0 : Int × Int} {done : List Int} {n : Nat} {p : Int × Int} (h : Tail g m n0 p0 done (n + 1) p) {k : Nat} (hk : k < 4) (ht : tellsP g m p k (n + 1)) (hno : NoneTo g m p (n + 1) k) :
    Tail g m n0 p0 (done ++ [(k : Int)]) n (nextP g p k n) := by
  intro l' hl
  rw [List.append_assoc]
  exact h _ ⟨k, l', hk, ht, hno, rfl, hl⟩
def ToldSays (g : G) (p : Int × Int) (B : Nat) (w w' : World) (e : Ending) : Prop :=
  ∃ m vl l, Apart g m ∧ WayS g m ((m p).getD 0) p l ∧ e = .returned (.tuple #[vl, .bool (m p).isSome, .int .i64 0]) ∧ l.length ≤ 576 ∧ Mem B w w' [rowI 3 vl l]
set_option maxRecDepth 100000 in
set_option maxHeartbeats 4000000 in
theorem told_yes (g : G) (hG : Good g) (v : Value) (a b : Nat) (w : World) (hg : IsGraph w v g) (ha : a < g.objs.length) (hb : b < g.objs.length) :
    Calls Try.prog 19 #[v, .int .i64 a, .int .i64 b] w fun e w' => ToldSays g ((a : Int), (b : Int)) w.heap.size w w' e := by
  have Hg := Lib.hid hg
  obtain ⟨vo, vr, rfl, ho, hr⟩ := hg
  obtain ⟨ao, co, rfl, hlo⟩ := ho.slice
  obtain ⟨ar, cr, rfl, hlr⟩ := hr.slice
  have Ho := Lib.hid ho
  clear ho hr
  have hM0 := (Mem.start w).alloc #[.slice ao g.objs.length co, .slice ar g.roots.length cr] 25
  have hn := hG.objs
  have hcmp : a < b ∨ b < a ∨ (a ≤ b ∧ b ≤ a) := by omega
  obtain ⟨i64a, i64b⟩ : i64ok (a : Int) ∧ i64ok (b : Int) := ⟨⟨by omega, by omega⟩, by omega, by omega⟩
  have hd1 : decide ((a : Int) < 0) = false := by simp
  have hd2 : decide ((b : Int) < 0) = false := by simp
  have hd3 : decide (g.objs.length ≤ a) = false := by simp; omega
  have hd4 : decide (g.objs.length ≤ b) = false := by simp; omega
  rcases hcmp with h | h | ⟨h, h'⟩
  all_goals
    go_enter Try.func19, Try.ntmps19
    go_wp2_with fail
    go_step3
    go_wp2_with fail
    refine (gcheck_yes _ g _ (Hg.out.later hM0.below) hG).mono ?_
    rintro e w1 ⟨rfl, hb1⟩
    have hM1 := hM0.call hb1
    obtain ⟨p0, p1⟩ := hM1.cells2 0 rfl
    go_wp2_with fail
    refine (apart_any g hG _ _ (Hg.out.later hM1.below)).mono ?_
    rintro e w2 ⟨bm, cnt, m, rfl, hA, h576, hM2⟩
    have hM4 := ((hM1.callMem hM2).allocAt w2.heap.size rfl #[.int .i64 (a : Int), .int .i64 (b : Int)] 65)
    have HA := Lib.hid hA
    have H576 := Lib.hid h576
    have hl := (gmap_look (Ent.ok_weak (hM4.get 1 rfl) (Nat.zero_le _)) (x := ((a : Int), (b : Int))) ⟨i64a, i64b⟩).2
    rw [(mapF_get _ _).2] at hl
    have hz := (mapF_get m ((a : Int), (b : Int))).1
    simp only [mapPair, pairV] at hl
    rw [hz] at hl
    clear hz
    obtain ⟨n0, hn0⟩ : ∃ n0, n0 = (m ((a : Int), (b : Int))).getD 0 := ⟨_, rfl⟩
    obtain ⟨is, his⟩ : ∃ is, is = (m ((a : Int), (b : Int))).isSome := ⟨_, rfl⟩
    rw [← hn0, ← his] at hl
    have hst : n0 = 0 ∨ m ((a : Int), (b : Int)) = some n0 := by
      cases hm : m ((a : Int), (b : Int)) with
      | none => left; rw [hn0, hm]; rfl
      | some j => right; rw [hn0, hm]; rfl
    have hn576 : n0 ≤ 576 := by
      rcases hst with h0 | h0
      · omega
      · exact h576 _ _ h0
    have Hst := Lib.hid hst
    have Hn0 := Lib.hid hn0
    have His := Lib.hid his
    have hM5 : Mem w.heap.size w (w2.alloc (.cells #[.int .i64 (a : Int), .int .i64 (b : Int)] 65)) [ebox w2.heap.size #[.int .i64 (a : Int), .int .i64 (b : Int)] 65, gmap mapPair bm cnt (mapF m), rowI 3 (.slice none 0 0) [], ebox w.heap.size #[.slice ao g.objs.length co, .slice ar g.roots.length cr] 25] :=
      (hM4.nilI 3).pick0 [1, 2, 0, 3] (by decide) rfl
    clear hst hn0 his hM2 hM4 hM1 hA h576
    go_wp2_with fail
    go_step3
    go_wp2_with fail
    go_loopg [12, 14] n0 (fun gk s12 s14 wr => ∃ (pa pb : Nat) (done : List Int), s12 = .int .i64 (gk : Int) ∧ (pa < g.objs.length ∧ pb < g.objs.length) ∧ (gk = 0 ∨ m ((pa : Int), (pb : Int)) = some gk) ∧ gk + done.length ≤ 576 ∧ Tail g m n0 ((a : Int), (b : Int)) done gk ((pa : Int), (pb : Int)) ∧
      Mem w.heap.size w wr [ebox w2.heap.size #[.int .i64 (pa : Int), .int .i64 (pb : Int)] 65, gmap mapPair bm cnt (mapF m), rowI 3 s14 done, ebox w.heap.size #[.slice ao g.objs.length co, .slice ar g.roots.length cr] 25])
    case atStart => exact ⟨a, b, [], rfl, ⟨ha, hb⟩, Hst.out, by simpa using hn576, fun l' hl => hl, hM5⟩
    case round =>
      clear hM5 hl
      obtain ⟨pa, pb, done, rfl, ⟨hpa, hpb⟩, hmp, hdl, htail, hM⟩ := hrel
      have Hmp := Lib.hid hmp
      have Htail := Lib.hid htail
      clear hmp htail
      cases gk with
      | zero =>
        have hW := Htail.out [] rfl
        rw [List.append_nil] at hW
        have HW := Lib.hid hW
        obtain ⟨av, cv, hv⟩ := hM.intsSlice 2 rfl
        subst hv
        have HM := Lib.hid hM
        clear hW hM
        go_wp2
        try rw [Exit.noGoto_ret]
        refine bodyPost_ret (v := .tuple #[.slice av done.length cv, .bool is, .int .i64 0]) (by simp [results, Try.results19, go_sem]) rfl ⟨m, _, done, HA.out, by rw [← Hn0.out]; exact HW.out, by rw [← His.out], by omega, HM.out.pick0 [2] (by decide) rfl⟩
      | succ n1 =>
        have hm1 : m ((pa : Int), (pb : Int)) = some (n1 + 1) := by
          rcases Hmp.out with h0 | h0
          · omega
          · exact h0
        have HM1 := Lib.hid hm1
        obtain ⟨av, cv, hv⟩ := hM.intsSlice 2 rfl
        subst hv
        have HMo := Lib.hid hM
        clear hm1 hM
        go_wp2
        go_loopg [14, 49] 4 (fun gj s14 s49 wr' => ∃ c : Nat, c + gj = 4 ∧ s14 = .slice av done.length cv ∧ s49 = .int .i64 (c : Int) ∧ NoneTo g m ((pa : Int), (pb : Int)) (n1 + 1) c ∧
          Mem w.heap.size w wr' [ebox w2.heap.size #[.int .i64 (pa : Int), .int .i64 (pb : Int)] 65, gmap mapPair bm cnt (mapF m), rowI 3 (.slice av done.length cv) done, ebox w.heap.size #[.slice ao g.objs.length co, .slice ar g.roots.length cr] 25])
        case atStart => exact ⟨0, rfl, rfl, rfl, fun _ h => absurd h (Nat.not_lt_zero _), HMo.out⟩
        case round =>
          clear HMo
          obtain ⟨c, hcg, rfl, rfl, hno, hM⟩ := hrel
          have Hno := Lib.hid hno
          clear hno
          cases gk with
          | zero =>
            exfalso
            obtain ⟨k, hk, ht, _⟩ := HA.out.first HM1.out
            exact Hno.out k (by omega) ht
          | succ gj =>
            obtain ⟨q0, q1⟩ := hM.cells2 3 rfl
            obtain ⟨q2, q3⟩ := hM.cells2 0 rfl
            have Hmap : Hid ((gmap mapPair bm cnt (mapF m)).ok 0 wr) := Lib.hid (Ent.ok_weak (hM.get 1 rfl) (Nat.zero_le _))
            have hc4 : c < 4 := by omega
            go_wp2_with fail
            refine (stells_any g _ _ cnt m pa pb c (n1 + 1) wr (Hg.out.later hM.below) Hmap.out hpa hpb (by omega) (by omega)).mono ?_
            rintro e w3 ⟨t, rfl, ht, hb3⟩
            have hM2 := hM.call hb3
            cases t with
            | false =>
              have Hno2 := Lib.hid (Hno.out.succ (fun h => by have := ht.2 h; cases this))
              have HM2 := Lib.hid hM2
              clear ht hM2 hM
              go_wp2
              go_roundg gj
              case rel => exact ⟨c + 1, by omega, rfl, by go_num, Hno2.out, HM2.out⟩
              case measure => omega
            | true =>
              have hT := ht.1 rfl
              have HT := Lib.hid hT
              have hstep := Lib.hid (Htail.out.step hc4 hT Hno.out)
              clear ht hT
              by_cases h0 : n1 = 0
              · subst h0
                go_wp2_with (at_builtin; refine Mem.wp_appI elemInts rfl (.tmp 59) (.tmp 61) rfl hM2 2 rfl rfl _ (c : Int) _ _ rfl (by simp) (by omega) ?_; intro ad n2 cp w4 hn2 hM3 hs3 hk3 ha3)
                have HM3 := Lib.hid hM3
                clear hM3
                go_roundg 0
                case rel => exact ⟨pa, pb, done ++ [(c : Int)], rfl, ⟨hpa, hpb⟩, .inl rfl, by simp; omega, by have := hstep.out; simpa [nextP] using this, HM3.out⟩
                case measure => omega
              · obtain ⟨x, y, hx, hy, i, hi, hin⟩ := Apart.some_of (by omega) (by omega) HT.out
                have hxi := fld_in hG hx
                have hyi := fld_in hG hy
                have hnx : nextP g ((pa : Int), (pb : Int)) c n1 = (x, y) := by rw [nextP, if_neg h0, hx, hy]; rfl
                have hm2 : m (x, y) = some n1 := by rw [hi]; congr 1; omega
                obtain ⟨xa, rfl⟩ : ∃ i : Nat, x = (i : Int) := ⟨x.toNat, by omega⟩
                obtain ⟨ya, rfl⟩ : ∃ i : Nat, y = (i : Int) := ⟨y.toNat, by omega⟩
                have hs2 := hstep.out
                rw [hnx] at hs2
                have HS2 := Lib.hid hs2
                have HM2 := Lib.hid hm2
                have hxl : xa < g.objs.length := by omega
                have hyl : ya < g.objs.length := by omega
                obtain ⟨op, hop⟩ := get_some _ _ hpa
                obtain ⟨oq, hoq⟩ := get_some _ _ hpb
                have hfp : op[c]? = some ⟨true, (xa : Int)⟩ := by rw [← hx]; unfold fld fieldsAt; rw [Int.toNat_natCast, List.getD_eq_getElem?_getD, hop]; rfl
                have hfq : oq[c]? = some ⟨true, (ya : Int)⟩ := by rw [← hy]; unfold fld fieldsAt; rw [Int.toNat_natCast, List.getD_eq_getElem?_getD, hoq]; rfl
                clear hx hy hi hin hs2 hm2 hnx hxi hyi hstep
                go_wp2_with (at_builtin; refine Mem.wp_appI elemInts rfl (.tmp 59) (.tmp 61) rfl hM2 2 rfl rfl _ (c : Int) _ _ rfl (by simp) (by omega) ?_; intro ad n2 cp w4 hn2 hM3 hs3 hk3 ha3)
                obtain ⟨bo, oo, _, up, hv, hbo, hz1, c1, hup⟩ := Ho.out.at hM3.below hop
                cases hv
                obtain ⟨_, _, _, uq, hv, _, _, c2, huq⟩ := Ho.out.at hM3.below hoq
                cases hv
                obtain ⟨bp, opo, cpp, hv, hbp, hz2, d1, d2, _⟩ := hup.at hM3.below hfp
                cases hv
                obtain ⟨bq, oqo, cpq, hv, hbq, hz3, d3, d4, _⟩ := huq.at hM3.below hfq
                cases hv
                have hlp : c < op.length := (List.getElem?_eq_some_iff.1 hfp).1
                have hlq : c < oq.length := (List.getElem?_eq_some_iff.1 hfq).1
                obtain ⟨r0, r1⟩ := hM3.cells2 0 rfl
                obtain ⟨r2, r3⟩ := hM3.cells2 3 rfl
                have f0 : w4.frozen? ⟨w2.heap.size, 0, none⟩ = false := hM3.free 0 rfl 0
                have f1 : w4.frozen? ⟨w2.heap.size, 1, none⟩ = false := hM3.free 0 rfl 1
                have HM3 := Lib.hid hM3
                have Hop := Lib.hid hop
                clear hM3 hM2 hop hoq hfp hfq hup huq hM q0 q1 q2 q3 hb3
                go_still_tail 23, (by kernel_rfl)
                go_wp2_with fail
                go_roundg n1
                case rel => exact ⟨xa, ya, done ++ [(c : Int)], rfl, ⟨hxl, hyl⟩, .inr HM2.out, by simp; omega, HS2.out, (((HM3.out.setBox 0 rfl 0 (.int .i64 (xa : Int))).setBox 0 rfl 1 (.int .i64 (ya : Int))).drew).cast (by simp)⟩
                case measure => omega
end Go.Proofs.Ytdmgpiimacnapaa
