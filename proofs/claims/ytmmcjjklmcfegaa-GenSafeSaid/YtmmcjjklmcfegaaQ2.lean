/- heap.Of, walked. -/
import Derived.Test.YtmmcjjklmcfegaaQ1
namespace Go.Proofs.Ytmmcjjklmcfegaa
open Go.RowKit Go.Shelf

section
variable {B : Nat} {w0 w : World}
theorem objs_push {A R : List Ent} {cs : List (Option Oc)} {c : Option Oc} (h : Mem B w0 w (boxO c :: rowO c :: (A ++ (objsE cs ++ R)))) : Mem B w0 w (A ++ (objsE (cs ++ [c]) ++ R)) := by
  refine h.perm ?_
  have e : A ++ (objsE (cs ++ [c]) ++ R) = (A ++ cs.map boxO) ++ boxO c :: (cs.map rowO ++ rowO c :: R) := by simp [objsE]
  rw [e]
  refine List.perm_middle.trans (List.Perm.cons _ ?_)
  have e2 : A ++ cs.map boxO ++ (cs.map rowO ++ rowO c :: R) = (A ++ cs.map boxO ++ cs.map rowO) ++ rowO c :: R := by simp
  rw [e2]
  refine List.perm_middle.trans (List.Perm.cons _ ?_)
  exact List.Perm.of_eq (by simp [objsE])
end
def OfSays (g : G) (w w' : World) (e : Ending) : Prop := ∃ vo cs, e = .returned vo ∧ conts cs = g.objs.map some ∧ Mem w.heap.size w w' (rowP vo cs :: objsE cs)
set_option maxRecDepth 100000 in
set_option maxHeartbeats 2000000 in
theorem of_any (g : G) (hG : Good g) (v : Value) (w : World) (hg : IsGraph w v g) :
    Calls Try.prog 37 #[v] w fun e w' => OfSays g w w' e := by
  obtain ⟨vo, vr, rfl, ho, hr⟩ := hg
  obtain ⟨ao, co, rfl, hlo⟩ := ho.slice
  obtain ⟨ar, cr, rfl, hlr⟩ := hr.slice
  have Ho := Lib.hid ho
  have HG := Lib.hid hG
  have hn := hG.objs
  clear ho hr hG
  have hM0 := (Mem.start w).alloc #[.slice ao g.objs.length co, .slice ar g.roots.length cr] 25
  have hM1 : Mem w.heap.size w _ ([rowP (.slice none 0 0) [], ebox w.heap.size #[.slice ao g.objs.length co, .slice ar g.roots.length cr] 25] ++ (objsE [] ++ [])) := hM0.nil 101 1
  clear hM0
  go_enter Try.func37, Try.ntmps37
  go_wp2
  go_loopw [3, 5, 9] (fun s3 _ s9 wr => ∃ (k : Nat) (cs : List (Option Oc)), k ≤ g.objs.length ∧ s9 = .int .i64 k ∧ Hid (conts cs = (g.objs.take k).map some) ∧ Mem w.heap.size w wr ([rowP s3 cs, ebox w.heap.size #[.slice ao g.objs.length co, .slice ar g.roots.length cr] 25] ++ (objsE cs ++ []))) (fun _ _ i _ => g.objs.length - (intOf i).toNat)
  case atStart => exact ⟨0, [], Nat.zero_le _, rfl, Lib.hid rfl, hM1⟩
  case round =>
    clear hM1
    obtain ⟨k, cs, hk, rfl, hcs, hM⟩ := hrel
    by_cases hlt : k < g.objs.length
    · obtain ⟨ob, hob⟩ := get_some _ _ hlt
      obtain ⟨b, off, cap2, uo, hv, hb, hb2, d1, huo⟩ := Ho.out.at hM.below hob
      cases hv
      obtain ⟨au, cu, rfl, hlu⟩ := huo.slice
      have hfl := HG.out.fields ob (List.mem_of_getElem? hob)
      have hcl : cs.length = k := by have := congrArg List.length hcs.out; rw [conts_len, List.length_map, List.length_take] at this; omega
      have Hcs : Hid (conts cs ++ [some ob] = (g.objs.take (k + 1)).map some) := Lib.hid (by rw [hcs.out, take_succ_some _ _ _ hob]; simp)
      have hMa := hM.alloc_ (.cells #[.slice au ob.length cu] 94)
      have hCl := cloneV_any (wr.alloc (.cells #[.slice au ob.length cu] 94)) _ ob (huo.later hMa.below) (by omega)
      have HCl := Lib.hid hCl
      have HMa := Lib.hid hMa
      clear hob hM hcs huo hCl hMa
      go_wp2_with fail
      refine HCl.out.mono ?_
      rintro e w1 ⟨v', rfl, hM2⟩
      have hM3 := ((HMa.out.callMem hM2).alloc #[v'] 94)
      obtain ⟨av, nv, cv, rfl⟩ := hM2.isSlice 0 rfl
      have HM3 := Lib.hid hM3
      clear hM2 hM3 HCl
      go_wp2_with (at_builtin; refine Mem.wp_app1 elemPtrs rfl (.tmp 13) (.tmp 19) rfl HM3.out 2 rfl rfl 1 #[.pointer (some ⟨w1.heap.size, 0, none⟩)] _ _ rfl (by simp) rfl rfl (by decide) (by omega) ?_; intro ad cp w3 hM7 hs1 hk1 ha1)
      go_roundw
      case rel =>
        refine ⟨k + 1, cs ++ [some ⟨w1.heap.size, .slice av nv cv, ob⟩], by omega, by go_num, Lib.hid (by rw [← Hcs.out]; simp [conts]), ?_⟩
        refine objs_push (hM7.cast ?_)
        simp only [List.set_cons_succ, List.set_cons_zero, List.cons_append, List.nil_append]
        unfold rowP boxO rowO
        simp [ptrO, hcl]
      case measure => simp [intOf]; omega
    · obtain rfl : k = g.objs.length := by omega
      have Hcs : Hid (conts cs = g.objs.map some) := Lib.hid (by rw [hcs.out, List.take_length])
      have HM := Lib.hid (hM.drop (L' := rowP _ cs :: objsE cs) (by rw [List.append_nil]; exact List.Sublist.cons_cons _ (List.sublist_cons_self _ (objsE cs))))
      clear hM hcs
      go_wp2
      go_ret
      exact ⟨_, cs, rfl, Hcs.out, HM.out⟩
end Go.Proofs.Ytmmcjjklmcfegaa
