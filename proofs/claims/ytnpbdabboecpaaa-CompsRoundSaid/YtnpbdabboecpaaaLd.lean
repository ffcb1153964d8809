/- leads: what can be come to from an object's fields. -/
import Derived.Test.YtnpbdabboecpaaaSo
import Derived.Test.YtnpbdabboecpaaaCl
import Derived.Test.YtnpbdabboecpaaaMi
import Derived.Deep.RegionHeld3
import Derived.Deep.DeepCutAuto
namespace Go.Proofs.Ytnpbdabboecpaaa
open Go.RowKit Go.Shelf

/-- The graph seen from an object. -/
def fromG (g : G) (i : Int) : G := ⟨g.objs, fieldsAt g i⟩
theorem fieldsAt_four {g : G} (hG : Good g) (i : Int) : (fieldsAt g i).length ≤ 4 := by
  unfold fieldsAt
  rw [List.getD_eq_getElem?_getD]
  cases h : g.objs[i.toNat]? with
  | none => simp
  | some o => exact hG.fields o (List.mem_of_getElem? h)
theorem fromG_good {g : G} (hG : Good g) (i : Int) : Good (fromG g i) := by
  refine ⟨hG.objs, Nat.le_trans (fieldsAt_four hG i) (by decide), hG.fields, ?_⟩
  intro v hv
  refine hG.vals v ?_
  unfold allV fromG at hv
  rcases List.mem_append.1 hv with h | h
  · exact fields_all g i v h
  · exact List.mem_append_right _ h
def LeadsOwn (g : G) (i : Int) (w w' : World) (e : Ending) : Prop := ∃ vl l dist, e = .returned (.tuple #[vl, .bool true]) ∧ FoundS (fromG g i) l dist ∧ Mem w.heap.size w w' [rowI 3 vl (sorted l)]
def LeadsSays (g : G) (i : Int) (w w' : World) (e : Ending) : Prop := ∃ vl l dist, e = .returned (.tuple #[vl, .bool true]) ∧ Far (fromG g i) l dist ∧ IsInts w' vl (sorted l) ∧ Below w.heap.size w w'
set_option maxRecDepth 100000 in
set_option maxHeartbeats 1000000 in
theorem leads_own (g : G) (hG : Good g) (v : Value) (i : Nat) (w : World) (hg : IsGraph w v g) (hi : i < g.objs.length) :
    Calls Try.prog 23 #[v, .int .i64 (i : Int)] w fun e w' => LeadsOwn g i w w' e := by
  obtain ⟨vo, vr, rfl, ho, hr⟩ := hg
  obtain ⟨ao, co, rfl, hlo⟩ := ho.slice
  obtain ⟨ar, cr, rfl, hlr⟩ := hr.slice
  have hM0 := (Mem.start w).alloc #[.slice ao g.objs.length co, .slice ar g.roots.length cr] 25
  have hn := hG.objs
  obtain ⟨ob, hob⟩ := get_some _ _ hi
  obtain ⟨b, off, cap2, uo, hv, hb, hb2, d1, huo⟩ := ho.at hM0.below hob
  cases hv
  obtain ⟨au, cu, rfl, hlu⟩ := huo.slice
  have hfo : fieldsAt g (i : Int) = ob := by unfold fieldsAt; rw [Int.toNat_natCast, List.getD_eq_getElem?_getD, hob]; rfl
  have hg2 : IsGraph w (.agg #[.slice (some ⟨b, off, none⟩) g.objs.length co, .slice au ob.length cu]) (fromG g i) := ⟨_, _, rfl, ho, by unfold fromG; rw [hfo]; exact huo⟩
  obtain ⟨p0, p1⟩ := hM0.cells2 0 rfl
  obtain ⟨W, hW⟩ : ∃ W, w.alloc (.cells #[.slice (some ⟨b, off, none⟩) g.objs.length co, .slice ar g.roots.length cr] 25) = W := ⟨_, rfl⟩
  have z0 : w.heap.size < W.heap.size := by rw [← hW]; simp
  rw [hW] at hM0 p0 p1 d1 hb2
  have Hr := Lib.hid (reach_any (fromG g i) (fromG_good hG i) _ _ ((hg2.later hM0.below).later ((Below.refl _ W).drew)))
  have HM0 := Lib.hid hM0
  have HW := Lib.hid hW
  have HG := Lib.hid hG
  clear ho hr hob huo hfo hg2 hM0 hW hG
  go_enter Try.func23, Try.ntmps23
  go_wp2_with fail
  rw [HW.out]
  go_cut [6, 7] (fun s6 s7 W' => s7 = .int .i64 0 ∧ ∃ l dist, FoundS (fromG g i) l dist ∧ Mem W.drew.heap.size W.drew W' [rowI 3 s6 (sorted l)])
  case first =>
    go_region_held3 (fun X => X.cell? ⟨w.heap.size, 0, none⟩ = some (.slice (some ⟨b, off, none⟩) g.objs.length co) ∧ X.cell? ⟨b, off + i, none⟩ = some (.slice au ob.length cu))
      (first | exact ⟨by simpa using p0, by simpa using d1⟩ | exact ⟨q5, q6⟩)
      (first
        | (go_at_call 16
           refine Hr.out.mono ?_
           rintro e w6 ⟨vl, l, dist, rfl, hF, hM2⟩
           have hb9 : Below W.heap.size W w6 := ((Below.refl _ W).drew).trans hM2.below
           have q5 := (hb9.cell (p := ⟨_, _, none⟩) z0).trans p0
           have q6 := (hb9.cell (p := ⟨_, _, none⟩) hb2).trans d1))
    all_goals
      go_wp2_with fail
      go_meet
      exact ⟨rfl, l, dist, hF, hM2⟩
  case rest =>
    obtain ⟨rfl, l, dist, hF, hM2⟩ := hcut
    have hB := (HM0.out.drew.callMem hM2).drop (List.Sublist.cons_cons _ (List.nil_sublist _))
    have HF := Lib.hid hF
    have HB := Lib.hid hB
    clear hF hB hM2
    go_wp2
    go_ret2
    exact ⟨_, l, dist, rfl, HF.out, HB.out⟩
theorem leads_any (g : G) (hG : Good g) (v : Value) (i : Nat) (w : World) (hg : IsGraph w v g) (hi : i < g.objs.length) :
    Calls Try.prog 23 #[v, .int .i64 (i : Int)] w fun e w' => LeadsSays g i w w' e := by
  refine (leads_own g hG v i w hg hi).mono ?_
  rintro e w' ⟨vl, l, dist, rfl, hF, hM⟩
  exact ⟨vl, l, dist, rfl, hF.far (fromG_good hG i), isInts_reach (fromG_good hG i) hF 0 hM rfl, hM.below⟩
end Go.Proofs.Ytnpbdabboecpaaa
