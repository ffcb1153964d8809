/- trial.Trial, walked: its counting closure. -/
import Derived.Test.YtdmgpiimacnapaaTc
import Derived.Test.YtdmgpiimacnapaaTe
import Derived.Test.YtdmgpiimacnapaaTf
namespace Go.Proofs.Ytdmgpiimacnapaa
open Go.RowKit Go.Shelf

attribute [local go_sem] Oper.semAt_some

set_option maxRecDepth 100000 in
set_option maxHeartbeats 4000000 in
theorem count_any (E : TryEnv) (hE : E.Ok) (T : List Int) (hT : T.length ≤ 1000) (st : List Int) (Bp : Nat) (L'' : List Ent) (l : List V) (u : Value) (hu : IsVals E.w0 u l) (hl : ∀ v ∈ l, v ∈ allV E.g) (hl4 : l.length ≤ 100) (w : World)
    (hM : Mem E.w0.heap.size E.w0 w (E.own (st, cntL E.g.objs.length T) (ebox Bp #[.pointer (some ⟨E.Bt, 0, none⟩)] 81 :: L''))) :
    CallsIn Fence.wide 10 Try.prog 51 #[u, .pointer (some ⟨Bp, 0, none⟩)] w fun e w' => e = .returned (.tuple #[]) ∧
      Mem E.w0.heap.size E.w0 w' (E.own (st, cntL E.g.objs.length (T ++ targets l)) (ebox Bp #[.pointer (some ⟨E.Bt, 0, none⟩)] 81 :: L'')) := by
  have hn := hE.good.objs
  obtain ⟨au, cu, rfl, hlu⟩ := hu.slice
  have Hu := Lib.hid hu
  have HE := Lib.hid hE
  have HM := Lib.hid hM
  have Hl := Lib.hid hl
  clear hu hE hM hl
  refine callsIn_of_wp_marks Try.func51 rfl trivial ?_ rfl
  simp only [Try.ntmps51, List.size_toArray, List.length_cons, List.length_nil, Nat.reduceAdd, Nat.reduceSub, Array.replicate_succ, Array.replicate_zero, List.push_toArray, List.append_toArray, List.nil_append, List.cons_append]
  gi_wp2_with fail
  refine ⟨trivial, (targets_opaque _ _ _ _ _).mono ?_⟩
  rintro e w3 ⟨Bs, rfl, hb3, hBs, hcs⟩
  have hM2 := HM.out.call hb3
  have hcalm := calm_of hM2 (L' := L'') (fun x hx => List.mem_cons_of_mem _ (List.mem_cons_of_mem _ (List.mem_cons_of_mem _ (List.mem_cons_of_mem _ hx))))
  have h0 : Mem E.w0.heap.size E.w0 w3 (E.own (st, cntL E.g.objs.length (T ++ ([] : List (Tg l)).map (·.1))) (ebox Bp #[.pointer (some ⟨E.Bt, 0, none⟩)] 81 :: L'')) := by simpa using hM2
  clear HM hb3
  gi_wp2
  refine range_slot (by omega) (gf := 73) (lb := #[.pointer (some ⟨Bs, 0, none⟩)]) rfl (enters_of Try.func73 (by kernel_rfl) rfl)
    (targets_stops _ (by omega) Bs l _ E.w0 Hu.out w3 hM2.below hBs hcs) hM2.base
    (fun pre W => Mem E.w0.heap.size E.w0 W (E.own (st, cntL E.g.objs.length (T ++ pre.map (·.1))) (ebox Bp #[.pointer (some ⟨E.Bt, 0, none⟩)] 81 :: L'')))
    (fun _ _ _ => False) ?own (fun _ => ownFrom_false _) h0 3 (fun x => .int .i64 x.1) ?assign ?body ?done ?stop
  case own =>
    exact ownFrom_mem (β := List (Tg l)) (fun pre => E.own (st, cntL E.g.objs.length (T ++ pre.map (·.1))) (ebox Bp #[.pointer (some ⟨E.Bt, 0, none⟩)] 81 :: L'')) hM2.base
      (fun _ => calm_cons (ebox_calm _ _ _ _) (calm_cons (rowI_calm _ _ _ _) (calm_cons (rowI_calm _ _ _ _) (calm_cons (ebox_calm _ _ _ _) hcalm))))
  case assign =>
    intro l x W Kk hK
    simp only [laid]
    gi_wp2
    exact hK
  case stop => rintro D c pre W hD hpre hf hK; exact hf.elim
  case done =>
    rintro D1 xs W hD1 hxs hM hK1
    rw [hxs] at hM
    have hM7 := hM.addDef' (D := D1) (Nat.le_trans hM2.base hD1) hK1 (calm_cons (ebox_calm _ _ _ _) (calm_cons (rowI_calm _ _ _ _) (calm_cons (rowI_calm _ _ _ _) (calm_cons (ebox_calm _ _ _ _) (fun x hx => (fun W' B0 hok b hb => by
      rcases hcalm x hx W' B0 hok b hb with h1 | h1
      · exact .inl (Nat.lt_of_lt_of_le h1 hD1)
      · exact .inr h1))))))
    have HM7 := Lib.hid hM7
    clear hM hM7 hxs hK1
    gi_wp2
    refine leaves_marks (v := .tuple #[]) [D1] _ HM7.out ?_
    intro W' hM8
    exact ⟨by simp [results, Try.results51, go_sem], rfl, hM8⟩
  case body =>
    rintro lp pre ⟨z, hz⟩ W hsz hM hlen
    have hxin := ref_in' HE.out.good (Hl.out _ (mem_of_target hz))
    obtain ⟨i, rfl⟩ : ∃ i : Nat, z = (i : Int) := ⟨z.toNat, by omega⟩
    have hi : i < E.g.objs.length := by omega
    obtain ⟨pl, hpl⟩ : ∃ pl : List Int, pre.map (·.1) = pl := ⟨_, rfl⟩
    have hpl2 : pl.length ≤ 100 := by
      rw [← hpl, List.length_map]
      have : (targets l).length ≤ l.length := by unfold targets; rw [List.length_map]; exact List.length_filter_le _ _
      omega
    rw [hpl] at hM
    obtain ⟨y1, hy1⟩ := get_some (cntL E.g.objs.length (T ++ pl)) i (by rw [cntL_len]; exact hi)
    have hyb : 0 ≤ y1 ∧ y1 ≤ 2000 := by
      rw [cntL_at _ hi] at hy1
      have := List.count_le_length (a := (i : Int)) (l := T ++ pl)
      rw [List.length_append] at this
      cases hy1
      omega
    obtain ⟨hyb1, hyb2⟩ := hyb
    have q0 : W.cell? ⟨Bp, 0, none⟩ = some (.pointer (some ⟨E.Bt, 0, none⟩)) := by have := hM.cell 3 rfl 0; simpa using this
    have c3' : W.cell? ⟨E.Bt, 3, none⟩ = some E.vF := by have := hM.cell 0 rfl 3; simpa using this
    obtain ⟨q5, q6⟩ := hM.intAt 2 rfl hy1
    have hM3 := hM.setI 2 rfl (cntL_len _ _) i (y1 + 1)
    have Hst := Lib.hid (cntL_snoc (T ++ pl) hi hy1)
    have Hpl := Lib.hid hpl
    have HM3 := Lib.hid hM3
    have HM0 := Lib.hid hM
    clear hpl hy1 hM hlen hsz hM3 hxin
    simp only [laid]
    gi_wp2
    refine ⟨(KeepsOthers.setCell W _ _).from _, below_between HM0.out.below HM3.out.below (by simp), ?_⟩
    have e : (pre ++ [(⟨(i : Int), hz⟩ : Tg l)]).map (·.1) = pl ++ [(i : Int)] := by rw [List.map_append, Hpl.out]; rfl
    show Mem E.w0.heap.size E.w0 _ (E.own (st, cntL E.g.objs.length (T ++ (pre ++ [(⟨(i : Int), hz⟩ : Tg l)]).map (·.1))) (ebox Bp #[.pointer (some ⟨E.Bt, 0, none⟩)] 81 :: L''))
    rw [e, ← List.append_assoc]
    exact HM3.out.cast (by simp only [List.set_cons_succ, List.set_cons_zero]; rw [Hst.out])
end Go.Proofs.Ytdmgpiimacnapaa
