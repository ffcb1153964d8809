/- trial.keep, walked. -/
import Derived.Test.YtdmgpiimacnapaaTb
import Derived.Test.YtdmgpiimacnapaaTd
namespace Go.Proofs.Ytdmgpiimacnapaa
open Go.RowKit Go.Shelf

attribute [local go_sem] Oper.semAt_some

theorem rest_off (st : List Int) {i : Nat} (hi : st[i]? = some 1) : rest (st.set i 2) = rest st + 1 := by
  induction st generalizing i with
  | nil => simp at hi
  | cons a l ih =>
    cases i with
    | zero =>
      simp at hi; subst hi
      simp [rest]
    | succ i =>
      simp at hi
      have := ih hi
      simp only [rest, List.set_cons_succ, List.countP_cons] at this ⊢
      omega
def KeepSaysT (E : TryEnv) (st F : List Int) (x : Int) (L' : List Ent) (w w' : World) (e : Ending) : Prop :=
  ∃ st', e = .returned (.tuple #[]) ∧ KeepT E.g st st' [x] ∧ Mem E.w0.heap.size E.w0 w' (E.own (st', F) L') ∧ KeepsOthers w w'
def KeepCT (E : TryEnv) (m : Nat) : Prop := ∀ (st F : List Int) (x : Nat) (w : World) (L' : List Ent), st.length = E.g.objs.length → st.length - rest st ≤ m → x < E.g.objs.length →
  Mem E.w0.heap.size E.w0 w (E.own (st, F) L') → CallsIn Fence.wide 10 Try.prog 54 #[.pointer (some ⟨E.Bt, 0, none⟩), .int .i64 (x : Int)] w fun e w' => KeepSaysT E st F x L' w w' e

set_option maxRecDepth 100000 in
set_option maxHeartbeats 4000000 in
theorem keepT_step (E : TryEnv) (hE : E.Ok) (m : Nat) (ih : ∀ m', m' < m → KeepCT E m') : KeepCT E m := by
  intro st F x w L' hP hm hx hM
  have hn := hE.good.objs
  obtain ⟨y, hy⟩ := get_some st x (by rw [hP]; exact hx)
  have q1 : w.cell? ⟨E.gS, x, none⟩ = some (.int .i64 y) ∧ w.frozen? ⟨E.gS, x, none⟩ = false := hM.intAt 1 rfl hy
  obtain ⟨q1, q2⟩ := q1
  have c0 : w.cell? ⟨E.Bt, 0, none⟩ = some E.vo := by have := hM.cell 0 rfl 0; simpa using this
  have c2 : w.cell? ⟨E.Bt, 2, none⟩ = some E.vS := by have := hM.cell 0 rfl 2; simpa using this
  have c3 : w.cell? ⟨E.Bt, 3, none⟩ = some E.vF := by have := hM.cell 0 rfl 3; simpa using this
  have zt : E.Bt < w.heap.size := (hM.box 0 rfl).2.1
  have zs : E.gS < w.heap.size := (hM.lt (List.mem_cons_of_mem _ (List.mem_cons_self ..)) E.gS rfl).2
  have hab := (List.pairwise_cons.1 hM.apart).1 _ (List.mem_cons_self ..) E.Bt rfl
  have hne : E.Bt ≠ E.gS := fun e => hab (by rw [e]; rfl)
  have hne' : E.gS ≠ E.Bt := fun e => hne e.symm
  have zb : E.w0.heap.size ≤ E.gS := (hM.lt (List.mem_cons_of_mem _ (List.mem_cons_self ..)) E.gS rfl).1
  obtain ⟨ob, hob⟩ := get_some _ _ hx
  obtain ⟨b, off, cap2, uo, hv, hb, hb2, d1, huo⟩ := hE.objs.at hM.below hob
  obtain ⟨au, cu, rfl, hlu⟩ := huo.slice
  rw [hv] at c0
  have hbs : b ≠ E.gS := by omega
  have hM0 := hM.alloc #[.pointer (some ⟨E.Bt, 0, none⟩)] 81
  have hk0 : KeepsOthers w (w.alloc (.cells #[.pointer (some ⟨E.Bt, 0, none⟩)] 81)) := KeepsOthers.alloc _ _
  have HM0 := Lib.hid hM0
  have HE := Lib.hid hE
  have Hih := Lib.hid ih
  have HP := Lib.hid hP
  have Hy := Lib.hid hy
  have Huo := Lib.hid huo
  have HMs := Lib.hid ((hM.setI 1 rfl hP x 2).allocAt w.heap.size (by simp) #[.pointer (some ⟨E.Bt, 0, none⟩)] 81)
  have hE2 := Lib.hid (show ob.length ≤ 4 from hE.good.fields ob (List.mem_of_getElem? hob))
  have Hob : Hid (fieldsAt E.g (x : Int) = ob) := Lib.hid (by unfold fieldsAt; rw [Int.toNat_natCast, List.getD_eq_getElem?_getD, hob]; rfl)
  have Hk0 := Lib.hid hk0
  clear hE ih hM hM0 hP hy hk0
  refine callsIn_of_wp_marks Try.func54 rfl trivial ?_ rfl
  simp only [Try.ntmps54, List.size_toArray, List.length_cons, List.length_nil, Nat.reduceAdd, Nat.reduceSub, Array.replicate_succ, Array.replicate_zero, List.push_toArray, List.append_toArray, List.nil_append, List.cons_append]
  by_cases h1 : ¬ y = 1
  · have hon : ¬ on st (x : Int) := by
      rintro ⟨_, h2⟩
      rw [Int.toNat_natCast, List.getD_eq_getElem?_getD, Hy.out] at h2
      exact h1 h2
    have Hold := Lib.hid (KeepT.old (g := E.g) hon)
    clear hon
    gi_wp2
    refine leaves_marks2 (v := .tuple #[]) [] _ HM0.out Hk0.out (by simp) ?_
    intro W' hM8 hko8
    refine ⟨by simp [results, Try.results54, go_sem], st, rfl, Hold.out, ?_, hko8⟩
    exact hM8.drop ((List.Sublist.refl _).cons _)
  · have hobl := hE2.out
    have HM1 := Lib.hid HMs.out
    have Hks : Hid (KeepsOthers w ((w.setCell ⟨E.gS, x, none⟩ (.int .i64 2)).alloc (.cells #[.pointer (some ⟨E.Bt, 0, none⟩)] 81))) := Lib.hid ((KeepsOthers.setCell w _ _).trans (KeepsOthers.alloc _ _))
    obtain rfl : y = 1 := by omega
    gi_wp2_with fail
    refine ⟨trivial, (targets_opaque _ _ _ _ _).mono ?_⟩
    rintro e w3 ⟨Bs, rfl, hb3, hBs, hcs⟩
    have hM2 : Mem E.w0.heap.size E.w0 w3 (E.own (st.set x 2, F) (ebox w.heap.size #[.pointer (some ⟨E.Bt, 0, none⟩)] 81 :: L')) := (HM1.out.call hb3).perm (List.perm_append_comm (l₁ := [_, _, _]) (l₂ := [_]) |>.append_right L')
    have hko3 := Hks.out.trans (show KeepsOthers _ w3 from ⟨hb3.size, fun k _ hk _ => (hb3.block k (Array.getElem?_eq_some_iff.1 hk).1).trans hk⟩)
    have Hko3 := Lib.hid hko3
    clear hko3 Hks hb3 HM1
    have hcalm := calm_of hM2 (L' := L') (fun x hx => List.mem_cons_of_mem _ (List.mem_cons_of_mem _ (List.mem_cons_of_mem _ (List.mem_cons_of_mem _ hx))))
    have hst0 : KeepT E.g (st.set x 2) (st.set x 2) [] := KeepT.nil _ _
    gi_wp2
    refine range_slot (by omega) (gf := 73) (lb := #[.pointer (some ⟨Bs, 0, none⟩)]) rfl (enters_of Try.func73 (by kernel_rfl) rfl)
      (targets_stops _ (by omega) Bs ob _ E.w0 Huo.out w3 hM2.below hBs hcs) hM2.base
      (fun pre W => ∃ s1, KeepT E.g (st.set x 2) s1 (pre.map (·.1)) ∧ KeepsOthers w W ∧ Mem E.w0.heap.size E.w0 W (E.own (s1, F) (ebox w.heap.size #[.pointer (some ⟨E.Bt, 0, none⟩)] 81 :: L')))
      (fun _ _ _ => False) ?own (fun _ => ownFrom_false _) ⟨_, hst0, Hko3.out, hM2⟩ 4 (fun x => .int .i64 x.1) ?assign ?body ?done ?stop
    case own =>
      refine ownFrom_ex fun s1 => ownFrom_and (p := fun pre : List (Tg ob) => KeepT E.g (st.set x 2) s1 (pre.map (·.1))) ?_
      intro sx W W' row hs hg hr
      refine ⟨ownFrom_keeps (β := Unit) (B := w3.heap.size) Hko3.out.size () W W' row hs.1 hg hr, ?_⟩
      exact ownFrom_mem (β := Unit) (fun _ => E.own (s1, F) (ebox w.heap.size #[.pointer (some ⟨E.Bt, 0, none⟩)] 81 :: L')) hM2.base
        (fun _ => calm_cons (ebox_calm _ _ _ _) (calm_cons (rowI_calm _ _ _ _) (calm_cons (rowI_calm _ _ _ _) (calm_cons (ebox_calm _ _ _ _) hcalm)))) () W W' row hs.2 hg hr
    case assign =>
      intro l x W Kk hK
      simp only [laid]
      gi_wp2
      exact hK
    case stop => rintro D c pre W hD hpre hf hK; exact hf.elim
    case done =>
      rintro D1 xs W hD1 hxs ⟨s1, hS, hko, hM⟩ hK1
      rw [hxs] at hS
      have hS2 : KeepT E.g st s1 [(x : Int)] := KeepT.take (by rw [HP.out]; exact hx) (by rw [List.getD_eq_getElem?_getD, Hy.out]; rfl) (by rw [Hob.out]; exact hS)
      have hbig : w.heap.size ≤ D1 := Nat.le_trans Hko3.out.size hD1
      have hM7 := hM.addDef' (D := D1) (Nat.le_trans hM2.base hD1) hK1 (calm_cons (ebox_calm _ _ _ _) (calm_cons (rowI_calm _ _ _ _) (calm_cons (rowI_calm _ _ _ _) (calm_cons (ebox_calm _ _ _ _) (fun x hx => (fun W' B0 hok b hb => by
        rcases hcalm x hx W' B0 hok b hb with h1 | h1
        · exact .inl (Nat.lt_of_lt_of_le h1 hD1)
        · exact .inr h1))))))
      have HM7 := Lib.hid hM7
      have HS2 := Lib.hid hS2
      have Hko4 := Lib.hid hko
      clear hM hM7 hS hS2 hxs hK1 hko
      gi_wp2
      refine leaves_marks2 (v := .tuple #[]) [D1] _ HM7.out Hko4.out (by intro D hD; simp at hD; subst hD; exact hbig) ?_
      intro W' hM8 hko8
      refine ⟨by simp [results, Try.results54, go_sem], s1, rfl, HS2.out, ?_, hko8⟩
      exact hM8.drop (by
        refine List.Sublist.cons_cons _ (List.Sublist.cons_cons _ (List.Sublist.cons_cons _ ?_))
        exact (List.Sublist.refl _).cons _)
    case body =>
      rintro l pre ⟨z, hz⟩ W hsz ⟨s1, hS, hko, hM⟩ hlen
      have hxin := ref_in' HE.out.good (fields_all E.g (x : Int) _ (by rw [Hob.out]; exact mem_of_target hz))
      obtain ⟨i, rfl⟩ : ∃ i : Nat, z = (i : Int) := ⟨z.toNat, by omega⟩
      have hi : i < E.g.objs.length := by omega
      obtain ⟨pl, hpl⟩ : ∃ pl : List Int, pre.map (·.1) = pl := ⟨_, rfl⟩
      rw [hpl] at hS
      have hF1 : s1.length = E.g.objs.length := by rw [hS.len, List.length_set]; exact HP.out
      have hr1 := rest_off st Hy.out
      have hr2 : rest (st.set x 2) ≤ rest s1 := rest_mono _ _ hS.len.symm (fun j hj => by have := hS.mono j; omega)
      have hr3 : rest s1 ≤ s1.length := List.countP_le_length
      have hlt : s1.length - rest s1 < m := by rw [hF1] at hr3 ⊢; rw [HP.out] at hm; omega
      have q0 : W.cell? ⟨w.heap.size, 0, none⟩ = some (.pointer (some ⟨E.Bt, 0, none⟩)) := by have := hM.cell 3 rfl 0; simpa using this
      have Hrec := Lib.hid (Hih.out _ hlt s1 F i W _ hF1 (Nat.le_refl _) hi hM)
      have Hpl := Lib.hid hpl
      have HS := Lib.hid hS
      have HMW := Lib.hid hM
      have Hko := Lib.hid hko
      clear hpl hS hM hko hF1 hlen hsz hr1 hr2 hr3 hlt
      simp only [laid]
      gi_wp2_with fail
      refine ⟨trivial, (callsIn_round (callsIn_wide.1 Hrec.out)).mono ?_⟩
      rintro e w6 ⟨s2, rfl, hS2, hM6, hk6⟩
      have hS3 := HS.out.trans hS2
      have HM6 := Lib.hid hM6
      have HS3 := Lib.hid hS3
      have Hk6 := Lib.hid hk6
      clear hS2 hM6 hk6 hS3
      gi_wp2
      refine ⟨Hk6.out.from _, below_between HMW.out.below HM6.out.below Hk6.out.size, s2, ?_, Hko.out.trans Hk6.out, HM6.out⟩
      rw [List.map_append, Hpl.out]
      exact HS3.out
theorem keepT_all (E : TryEnv) (hE : E.Ok) : ∀ m, KeepCT E m := fun m => by
  induction m using Nat.strongRecOn with
  | _ m ih => exact keepT_step E hE m ih
end Go.Proofs.Ytdmgpiimacnapaa
