/- last.Last's helpers: the closure that finds a wrong one, leads. -/
import Derived.Test.YtnpbdabboecpaaaLd
import Derived.Test.YtnpbdabboecpaaaGc
import Derived.Test.YtnpbdabboecpaaaG2
import Derived.Deep.LoopGhost
namespace Go.Proofs.Ytnpbdabboecpaaa
open Go.RowKit Go.Shelf

def outB (n : Nat) (x : Int) : Bool := decide (x < 0 ∨ (n : Int) ≤ x)
theorem lastbad_any (x : Int) (b : Nat) (ao : Option Addr) (n co : Nat) (w : World) (hb : w.cell? ⟨b, 0, none⟩ = some (.slice ao n co)) (_hn : n ≤ 1000) :
    Calls Try.prog 41 #[.int .i64 x, .pointer (some ⟨b, 0, none⟩)] w fun e w' => e = .returned (.bool (outB n x)) ∧ w = w' := by
  by_cases h0 : x < 0
  · go_enter Try.func41, Try.ntmps41
    go_wp2
    go_ret
    exact ⟨by simp [outB, h0], rfl⟩
  · by_cases h2 : (n : Int) ≤ x
    · go_enter Try.func41, Try.ntmps41
      go_wp2
      go_ret
      exact ⟨by simp [outB, h2], rfl⟩
    · go_enter Try.func41, Try.ntmps41
      go_wp2
      go_ret
      exact ⟨by simp [outB] <;> omega, rfl⟩
def BadIx (l : List Int) (p : Int → Bool) (i : Int) : Prop := 0 ≤ i ↔ l.any p = true
def AnyIx (P : Int → Prop) (e : Ending) : Prop := ∃ i : Int, e = .returned (.int .i64 i) ∧ P i
set_option maxHeartbeats 400000 in
theorem lastIndex_any (v : Value) (l : List Int) (bg : Nat) (ao : Option Addr) (n co : Nat) (w : World) (hb : w.cell? ⟨bg, 0, none⟩ = some (.slice ao n co)) (hn : n ≤ 1000) (hl : IsInts w v l) :
    Calls Try.prog 58 #[v, .func (.func 41) #[] #[.pointer (some ⟨bg, 0, none⟩)]] w fun e w' => AnyIx (BadIx l (outB n)) e ∧ w = w' := by
  obtain ⟨a, cap, rfl, hm⟩ := hl.slice
  have Hl := Lib.hid hl
  have Hb := Lib.hid hb
  clear hl hb
  go_enter Try.func58, Try.ntmps58
  go_wp2
  go_loop [8] (fun i => ∃ k : Nat, k ≤ l.length ∧ i = .int .i64 k ∧ NotYet l k (outB n)) (fun i => l.length - (intOf i).toNat)
  case atStart => exact ⟨0, Nat.zero_le _, rfl, NotYet.zero _ _⟩
  case round =>
    obtain ⟨k, hk, rfl, hN⟩ := hrel
    by_cases hlt : k < l.length
    · obtain ⟨o, hx⟩ := get_some _ _ hlt
      obtain ⟨b, off, cap2, hv, hb, hnx, c1, _⟩ := Hl.out.at (Below.refl _ _) hx
      cases hv
      have HS := Lib.hid (take_succ_some _ _ _ hx)
      have Hx := Lib.hid (List.mem_of_getElem? hx)
      have HN := Lib.hid hN
      have hc := lastbad_any o bg ao n co w Hb.out hn
      obtain ⟨t, ht⟩ : ∃ t, outB n o = t := ⟨_, rfl⟩
      rw [ht] at hc
      have Ht := Lib.hid ht
      have Hc := Lib.hid hc
      clear hx hN hc ht
      go_wp2_with fail
      refine Hc.out.mono ?_
      rintro e w1 ⟨rfl, rfl⟩
      cases t with
      | false =>
        go_wp2
        go_round
        case rel => exact ⟨k + 1, by omega, by go_num, HN.out.succ HS.out Ht.out⟩
        case measure => simp [intOf]; omega
      | true =>
        have Hany : Hid (l.any (outB n) = true) := Lib.hid (List.any_eq_true.2 ⟨o, Hx.out, Ht.out⟩)
        go_wp2
        go_ret
        exact ⟨⟨k, rfl, ⟨fun _ => Hany.out, fun _ => by omega⟩⟩, rfl⟩
    · obtain rfl : k = l.length := by omega
      have Hno : Hid (l.any (outB n) = false) := Lib.hid (List.any_eq_false.2 fun o ho => by rw [hN.all o ho]; decide)
      clear hN
      go_wp2
      go_ret
      exact ⟨⟨-1, rfl, ⟨fun h => by omega, fun h => by rw [Hno.out] at h; cases h⟩⟩, rfl⟩
theorem lastContains_any (v : Value) (l : List Int) (bg : Nat) (ao : Option Addr) (n co : Nat) (w : World) (hb : w.cell? ⟨bg, 0, none⟩ = some (.slice ao n co)) (hn : n ≤ 1000) (hl : IsInts w v l) :
    Calls Try.prog 40 #[v, .func (.func 41) #[] #[.pointer (some ⟨bg, 0, none⟩)]] w fun e w' => e = .returned (.bool (l.any (outB n))) ∧ w = w' := by
  have Hl := Lib.hid hl
  have Hb := Lib.hid hb
  obtain ⟨t, ht⟩ : ∃ t, l.any (outB n) = t := ⟨_, rfl⟩
  rw [ht]
  have Ht := Lib.hid ht
  clear hl hb ht
  go_enter Try.func40, Try.ntmps40
  go_wp2_with fail
  refine (lastIndex_any _ _ bg ao n co _ Hb.out hn Hl.out).mono ?_
  rintro e w1 ⟨⟨i, rfl, hi⟩, rfl⟩
  have hd : decide (0 ≤ i) = t := by
    rw [Bool.eq_iff_iff, decide_eq_true_eq, ← Ht.out]; exact hi
  clear hi
  cases t with
  | true =>
    have h0 : 0 ≤ i := of_decide_eq_true hd
    clear hd
    go_wp2
    go_ret
    exact ⟨by simp <;> omega, rfl⟩
  | false =>
    have h0 : ¬ 0 ≤ i := of_decide_eq_false hd
    clear hd
    go_wp2
    go_ret
    exact ⟨by simp <;> omega, rfl⟩
def LastLeads (g : G) (i : Int) (w w' : World) (e : Ending) : Prop := ∃ vl l dist, e = .returned vl ∧ Far (fromG g i) l dist ∧ Mem w.heap.size w w' [rowI 3 vl l]
set_option maxRecDepth 100000 in
set_option maxHeartbeats 1000000 in
theorem lastLeads_any (g : G) (hG : Good g) (v : Value) (i : Nat) (w : World) (hg : IsGraph w v g) (hi : i < g.objs.length) :
    Calls Try.prog 42 #[v, .int .i64 (i : Int)] w fun e w' => LastLeads g i w w' e := by
  obtain ⟨vo, vr, rfl, ho, hr⟩ := hg
  obtain ⟨ao, co, rfl, hlo⟩ := ho.slice
  obtain ⟨ar, cr, rfl, hlr⟩ := hr.slice
  have hM0 := (Mem.start w).alloc #[.slice ao g.objs.length co, .slice ar g.roots.length cr] 25
  have hn := hG.objs
  obtain ⟨ob, hob⟩ := get_some _ _ hi
  obtain ⟨b, off, cap2, uo, hv, hb, hb2, d1, huo⟩ := ho.at hM0.below hob
  cases hv
  obtain ⟨au, cu, rfl, hlu⟩ := huo.slice
  have hfo : fieldsAt g (i : Int) = ob := by unfold fieldsAt; rw [Int.toNat_natCast, List.getD_eq_getElem?_getD, hob]; rfl
  have hg2 : IsGraph w (.agg #[.slice (some ⟨b, off, none⟩) g.objs.length co, .slice au ob.length cu]) (fromG g i) := ⟨_, _, rfl, ho, by unfold fromG; rw [hfo]; exact huo⟩
  obtain ⟨p0, p1⟩ := hM0.cells2 0 rfl
  obtain ⟨W, hW⟩ : ∃ W, w.alloc (.cells #[.slice (some ⟨b, off, none⟩) g.objs.length co, .slice ar g.roots.length cr] 25) = W := ⟨_, rfl⟩
  have z0 : w.heap.size < W.heap.size := by rw [← hW]; simp
  rw [hW] at hM0 p0 p1 d1 hb2
  have Hr := Lib.hid (found_any (fromG g i) (fromG_good hG i) _ _ ((hg2.later hM0.below).later ((Below.refl _ W).drew)))
  have HM0 := Lib.hid hM0
  have HW := Lib.hid hW
  have HG := Lib.hid hG
  clear ho hr hob huo hfo hg2 hM0 hW hG
  go_enter Try.func42, Try.ntmps42
  go_wp2_with fail
  rw [HW.out]
  go_cut [5] (fun s5 W' => ∃ l dist, FoundS (fromG g i) l dist ∧ ∃ vd, Mem W.drew.heap.size W.drew W' [rowI 3 s5 l, rowI 3 vd dist])
  case first =>
    go_region_held3 (fun X => X.cell? ⟨w.heap.size, 0, none⟩ = some (.slice (some ⟨b, off, none⟩) g.objs.length co) ∧ X.cell? ⟨b, off + i, none⟩ = some (.slice au ob.length cu))
      (first | exact ⟨by simpa using p0, by simpa using d1⟩ | exact ⟨q5, q6⟩)
      (first
        | (go_at_call 33
           refine Hr.out.mono ?_
           rintro e w6 ⟨vl, vd, l, dist, rfl, hF, hM2⟩
           have hb9 : Below W.heap.size W w6 := ((Below.refl _ W).drew).trans hM2.below
           have q5 := (hb9.cell (p := ⟨_, _, none⟩) z0).trans p0
           have q6 := (hb9.cell (p := ⟨_, _, none⟩) hb2).trans d1))
    all_goals
      go_wp2_with fail
      go_meet
      exact ⟨l, dist, hF, vd, hM2⟩
  case rest =>
    obtain ⟨l, dist, hF, vd, hM2⟩ := hcut
    have HF := Lib.hid (hF.far (fromG_good HG.out i))
    have HB := Lib.hid (HM0.out.drew.callMem hM2)
    clear hF hM2
    go_wp2
    go_ret
    exact ⟨_, l, dist, rfl, HF.out, HB.out.pick0 [0] (by decide) rfl⟩
end Go.Proofs.Ytnpbdabboecpaaa
