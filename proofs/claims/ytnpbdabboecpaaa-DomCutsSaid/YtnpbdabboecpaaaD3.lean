/- The search in depth: the closure walked. -/
import Derived.Test.YtnpbdabboecpaaaD0
import Derived.Test.YtnpbdabboecpaaaTy
import Derived.Test.YtnpbdabboecpaaaLi
import Derived.Test.YtnpbdabboecpaaaF1
import Derived.Laws.EntriesVeiled
namespace Go.Proofs.Ytnpbdabboecpaaa
open Go.RowKit Go.Shelf

attribute [local go_sem] Oper.semAt_some

def rowS (v : Value) (K : List Bool) : Ent := erow 4 1 v K.length (K.map .bool)
theorem rowS_calm (B : Nat) (v : Value) (K : List Bool) : (rowS v K).Calm B := erow_calm B _ 1 v _ _
theorem Mem.boolAt {B : Nat} {w0 w : World} {L : List Ent} (h : Mem B w0 w L) (k : Nat) {b m cap : Nat} {K : List Bool} (hk : L[k]? = some (rowS (.slice (some ⟨b, 0, none⟩) m cap) K)) {j : Nat} {x : Bool} (hx : K[j]? = some x) :
    w.cell? ⟨b, j, none⟩ = some (.bool x) ∧ w.frozen? ⟨b, j, none⟩ = false ∧ b < w.heap.size := by
  have hr : w.ownsRow B 4 1 (.slice (some ⟨b, 0, none⟩) m cap) K.length (K.map .bool) := h.row k hk
  have hj : j < K.length := (List.getElem?_eq_some_iff.1 hx).1
  rcases hr.2 with ⟨h1, _⟩ | ⟨g, cap', cur, hv, hB, hg, _⟩
  · cases h1
  · cases hv
    refine ⟨?_, hr.frozenAt j, (Array.getElem?_eq_some_iff.1 hg).1⟩
    rw [hr.cellAt j (by omega)]
    simp [hx]
theorem Mem.setS {B : Nat} {w0 w : World} {L : List Ent} (h : Mem B w0 w L) (k : Nat) {b m cap : Nat} {K : List Bool} (hk : L[k]? = some (rowS (.slice (some ⟨b, 0, none⟩) m cap) K)) (hm : K.length = m) (j : Nat) (x : Bool) :
    Mem B w0 (w.setCell ⟨b, j, none⟩ (.bool x)) (L.set k (rowS (.slice (some ⟨b, 0, none⟩) m cap) (K.set j x))) := by
  subst hm
  exact (h.setRow k hk j (.bool x)).cast (by simp [rowS, List.map_set])
def cntS (K : List Bool) : Nat := K.countP (fun b => b)
theorem cntS_set (K : List Bool) {i : Nat} (hi : K[i]? = some false) : cntS (K.set i true) = cntS K + 1 := by
  unfold cntS
  obtain ⟨hl, he⟩ := List.getElem?_eq_some_iff.1 hi
  rw [List.countP_set hl, he]
  have : K.countP (fun b => b) ≥ 0 := Nat.zero_le _
  simp
theorem cntS_le (K : List Bool) : cntS K ≤ K.length := List.countP_le_length
theorem cntS_mono : ∀ (K K' : List Bool), K.length = K'.length → (∀ i, sk K i = true → sk K' i = true) → cntS K ≤ cntS K'
  | [], [], _, _ => Nat.le_refl _
  | [], _ :: _, h, _ => by simp at h
  | _ :: _, [], h, _ => by simp at h
  | a :: K, b :: K', h, hs => by
    have ih := cntS_mono K K' (by simpa using h) (fun i hi => by
      have h2 := hs (i + 1)
      unfold sk at hi h2 ⊢
      simp only [Bool.and_eq_true, decide_eq_true_eq] at hi h2 ⊢
      have e : (i + 1).toNat = i.toNat + 1 := by omega
      rw [e] at h2
      simp only [List.getD_cons_succ] at h2
      exact ⟨hi.1, (h2 ⟨by omega, hi.2⟩).2⟩)
    have h0 := hs 0
    unfold sk at h0
    simp at h0
    unfold cntS at ih ⊢
    rw [List.countP_cons, List.countP_cons]
    cases a with
    | false => simp; omega
    | true => rw [h0 rfl]; simp; omega
/-- What has been listed: once each, and marked. -/
structure Lst (K : List Bool) (l : List Int) : Prop where
  nodup : l.Nodup
  mem : ∀ x ∈ l, sk K x = true
theorem sk_lt {K : List Bool} {x : Int} (h : sk K x = true) : 0 ≤ x ∧ x < K.length := by
  unfold sk at h
  simp only [Bool.and_eq_true, decide_eq_true_eq] at h
  refine ⟨h.1, ?_⟩
  rcases Nat.lt_or_ge x.toNat K.length with h2 | h2
  · omega
  · have h3 := h.2
    rw [List.getD_eq_getElem?_getD, List.getElem?_eq_none h2] at h3
    simp at h3
theorem Lst.len {K : List Bool} {l : List Int} (h : Lst K l) : l.length ≤ K.length := by
  have h2 := h.nodup.length_le_of_subset (l₂ := (List.range K.length).map fun k : Nat => (k : Int)) fun y hy => by
    have := sk_lt (h.mem y hy)
    exact List.mem_map.2 ⟨y.toNat, List.mem_range.2 (by omega), by omega⟩
  simpa using h2
theorem PostS.lst {g : G} {K K' : List Bool} {new ts l : List Int} (h : PostS g K K' new ts) (hl : Lst K l) : Lst K' (l ++ new) := by
  refine ⟨?_, ?_⟩
  · rw [List.nodup_append]
    refine ⟨hl.nodup, h.nodup, ?_⟩
    rintro a ha b hb rfl
    have h1 := hl.mem a ha
    rw [h.fresh a hb] at h1; cases h1
  · intro x hx
    rcases List.mem_append.1 hx with hx | hx
    · exact (h.mem x).2 (.inl (hl.mem x hx))
    · exact (h.mem x).2 (.inr hx)
theorem Lst.set {K : List Bool} {l : List Int} (h : Lst K l) {i : Nat} (hi : i < K.length) : Lst (K.set i true) l :=
  ⟨h.nodup, fun x hx => by rw [sk_set K hi, h.mem x hx]; rfl⟩

/-- What stands around the search: the graph, as it came in; the blocks of what the closure holds. -/
structure PostEnv where
  g : G
  w0 : World
  vo : Value
  vr : Value
  bs : Nat
  bw : Nat
  bg : Nat
  bl : Nat
  gK : Nat
structure PostEnv.Ok (E : PostEnv) : Prop where
  good : Good E.g
  objs : IsObjs E.w0 E.vo E.g.objs
@[reducible] def PostEnv.vK (E : PostEnv) : Value := .slice (some ⟨E.gK, 0, none⟩) E.g.objs.length E.g.objs.length
@[reducible] def PostEnv.fv (E : PostEnv) : Value := .func (.func 63) #[] #[.pointer (some ⟨E.bs, 0, none⟩), .pointer (some ⟨E.bw, 0, none⟩), .pointer (some ⟨E.bg, 0, none⟩), .pointer (some ⟨E.bl, 0, none⟩)]
@[reducible] def PostEnv.own (E : PostEnv) (K : List Bool) (vl : Value) (l : List Int) (L' : List Ent) : List Ent :=
  ebox E.bs #[E.vK] 94 :: rowS E.vK K :: ebox E.bw #[E.fv] 95 :: ebox E.bg #[E.vo, E.vr] 25 :: ebox E.bl #[vl] 27 :: rowI 3 vl l :: L'
def PostSays (E : PostEnv) (K : List Bool) (l : List Int) (vs : List V) (L' : List Ent) (w w' : World) (e : Ending) : Prop :=
  ∃ K' new vl', e = .returned (.tuple #[]) ∧ PostS E.g K K' new (targets vs) ∧ Mem E.w0.heap.size E.w0 w' (E.own K' vl' (l ++ new) L') ∧ KeepsOthers w w'
def PostC (E : PostEnv) (m : Nat) : Prop := ∀ (K : List Bool) (l : List Int) (vl : Value) (vs : List V) (u : Value) (w : World) (L' : List Ent), K.length = E.g.objs.length → K.length - cntS K ≤ m → Lst K l → IsVals E.w0 u vs → (∀ v ∈ vs, v ∈ allV E.g) →
  Mem E.w0.heap.size E.w0 w (E.own K vl l L') → CallsIn Fence.wide 10 Try.prog 63 #[u, .pointer (some ⟨E.bs, 0, none⟩), .pointer (some ⟨E.bw, 0, none⟩), .pointer (some ⟨E.bg, 0, none⟩), .pointer (some ⟨E.bl, 0, none⟩)] w fun e w' => PostSays E K l vs L' w w' e

theorem fieldsAt_in {g : G} {i : Int} {v : V} (hv : v ∈ fieldsAt g i) : v ∈ allV g := by
  unfold fieldsAt at hv
  rw [List.getD_eq_getElem?_getD] at hv
  cases ho : g.objs[i.toNat]? with
  | none => rw [ho] at hv; simp at hv
  | some ob => rw [ho] at hv; exact List.mem_append_right _ (List.mem_flatten.2 ⟨ob, List.mem_of_getElem? ho, by simpa using hv⟩)

set_option maxRecDepth 100000 in
set_option maxHeartbeats 4000000 in
theorem post_step (E : PostEnv) (hE : E.Ok) (m : Nat) (ih : ∀ m', m' < m → PostC E m') : PostC E m := by
  intro K l vl vs u w L' hKl hm hlst hu hvs hM
  obtain ⟨au, cu, rfl, hlu⟩ := hu.slice
  have Hu := Lib.hid hu
  have HE := Lib.hid hE
  have Hih := Lib.hid ih
  have hn := hE.good.objs
  have Hvs := Lib.hid hvs
  have Hlst := Lib.hid hlst
  have HM0 := Lib.hid hM
  clear hE ih hu hvs hM hlst
  refine callsIn_of_wp_marks Try.func63 rfl trivial ?_ rfl
  simp only [Try.ntmps63, List.size_toArray, List.length_cons, List.length_nil, Nat.reduceAdd, Nat.reduceSub, Array.replicate_succ, Array.replicate_zero, List.push_toArray, List.append_toArray, List.nil_append, List.cons_append]
  gi_wp2_with fail
  refine ⟨trivial, (targets_opaque _ _ _ _ _).mono ?_⟩
  rintro e w3 ⟨Bs, rfl, hb3, hBs, hcs⟩
  have hM1 := HM0.out.call hb3
  have hko3 : KeepsOthers w w3 := ⟨hb3.size, fun k _ hk _ => (hb3.block k (Array.getElem?_eq_some_iff.1 hk).1).trans hk⟩
  have Hko3 := Lib.hid hko3
  clear hko3 HM0 hb3
  have hcalm := calm_of hM1 (L' := L') (fun x hx => List.mem_cons_of_mem _ (List.mem_cons_of_mem _ (List.mem_cons_of_mem _ (List.mem_cons_of_mem _ (List.mem_cons_of_mem _ (List.mem_cons_of_mem _ hx))))))
  have hst0 : PostS E.g K K [] [] := PostS.nil _ _
  gi_wp2
  refine range_slot (by omega) (gf := 56) (lb := #[.pointer (some ⟨Bs, 0, none⟩)]) rfl (enters_of Try.func56 (by kernel_rfl) rfl)
    (targets_stops _ (by omega) Bs vs _ E.w0 Hu.out w3 hM1.below hBs hcs) hM1.base
    (fun pre W => ∃ K1 new vl1, (PostS E.g K K1 new (pre.map (·.1))) ∧ KeepsOthers w W ∧ Mem E.w0.heap.size E.w0 W (E.own K1 vl1 (l ++ new) L'))
    (fun _ _ _ => False) ?own (fun _ => ownFrom_false _) ⟨K, [], vl, hst0, Hko3.out, by rw [List.append_nil]; exact hM1⟩ 6 (fun x => .int .i64 x.1) ?assign ?body ?done ?stop
  case own =>
    refine ownFrom_ex fun K1 => ownFrom_ex fun new => ownFrom_ex fun vl1 => ownFrom_and (p := fun pre : List (Tg vs) => PostS E.g K K1 new (pre.map (·.1))) ?_
    intro s W W' row hs hg hr
    refine ⟨ownFrom_keeps (β := Unit) (B := w3.heap.size) Hko3.out.size () W W' row hs.1 hg hr, ?_⟩
    exact ownFrom_mem (β := Unit) (fun _ => E.own K1 vl1 (l ++ new) L') hM1.base
      (fun _ => calm_cons (ebox_calm _ _ _ _) (calm_cons (rowS_calm _ _ _) (calm_cons (ebox_calm _ _ _ _) (calm_cons (ebox_calm _ _ _ _) (calm_cons (ebox_calm _ _ _ _) (calm_cons (rowI_calm _ _ _ _) hcalm)))))) () W W' row hs.2 hg hr
  case assign =>
    intro l x W Kk hK
    simp only [laid]
    gi_wp2
    exact hK
  case stop => rintro D c pre W hD hpre hf hK; exact hf.elim
  case body =>
    rintro lb pre ⟨x, hx⟩ W hsz ⟨K1, new, vl1, hS, hko, hM⟩ hlen
    have hxv := mem_of_target hx
    have hxin := ref_in' HE.out.good (Hvs.out _ hxv)
    obtain ⟨i, rfl⟩ : ∃ i : Nat, x = (i : Int) := ⟨x.toNat, by omega⟩
    have hi : i < E.g.objs.length := by omega
    have hK1 : K1.length = E.g.objs.length := by rw [hS.len, hKl]
    obtain ⟨b, hb⟩ := get_some K1 i (by omega)
    obtain ⟨c4, f4, z4⟩ := hM.boolAt 1 rfl hb
    obtain ⟨pl, hpl⟩ : ∃ pl : List Int, pre.map (·.1) = pl := ⟨_, rfl⟩
    rw [hpl] at hS
    have Hpl := Lib.hid hpl
    have q0 : W.cell? ⟨E.bs, 0, none⟩ = some E.vK := by have := hM.cell 0 rfl 0; simpa using this
    have HM := Lib.hid hM
    have HS := Lib.hid hS
    have Hb := Lib.hid hb
    have HK1 := Lib.hid hK1
    have Hko := Lib.hid hko
    clear hpl hS hM hxv hxin hlen hsz hb hK1 hko
    simp only [laid]
    cases b with
    | true =>
      have hkx : sk K1 (i : Int) = true := by
        unfold sk
        rw [Int.toNat_natCast, List.getD_eq_getElem?_getD, Hb.out]
        simp
      have Hs2 := Lib.hid (HS.out.skip hkx)
      clear hkx
      gi_wp2
      refine ⟨KeepsFrom.refl _ _, Below.refl _ _, K1, new, vl1, ?_, Hko.out, HM.out⟩
      rw [List.map_append, Hpl.out]
      exact Hs2.out
    | false =>
      have hM2 : Mem E.w0.heap.size E.w0 (W.setCell ⟨E.gK, i, none⟩ (.bool true)) (E.own (K1.set i true) vl1 (l ++ new) L') := HM.out.setS 1 rfl HK1.out i true
      obtain ⟨W2, hW2⟩ : ∃ W2, W.setCell ⟨E.gK, i, none⟩ (.bool true) = W2 := ⟨_, rfl⟩
      have hkW : KeepsOthers W (W.setCell ⟨E.gK, i, none⟩ (.bool true)) := KeepsOthers.setCell W _ _
      have HkW := Lib.hid hkW
      rw [hW2] at hM2 HkW
      have HW2 := Lib.hid hW2
      clear hW2 hkW
      have q2 : W2.cell? ⟨E.bw, 0, none⟩ = some E.fv := by have := hM2.cell 2 rfl 0; simpa using this
      have q3 : W2.cell? ⟨E.bg, 0, none⟩ = some E.vo := by have := hM2.cell 3 rfl 0; simpa using this
      obtain ⟨ob, hob⟩ := get_some _ _ hi
      obtain ⟨b5, off, cap2, uo, hv, hb5, hn2, c1, huo⟩ := HE.out.objs.at hM2.below hob
      obtain ⟨au2, cu2, rfl, hlu2⟩ := huo.slice
      rw [hv] at q3
      have HM2 := Lib.hid hM2
      have Hv := Lib.hid hv
      have hfo : fieldsAt E.g (i : Int) = ob := by unfold fieldsAt; rw [List.getD_eq_getElem?_getD, Int.toNat_natCast, hob]; rfl
      have Hfo := Lib.hid hfo
      have Huo := Lib.hid huo
      clear hM2 hv hob hfo huo
      have hK2 : (K1.set i true).length = E.g.objs.length := by rw [List.length_set]; exact HK1.out
      have hc1 := cntS_set K1 Hb.out
      have hc2 := cntS_le (K1.set i true)
      have hc3 : cntS K ≤ cntS K1 := cntS_mono _ _ (by rw [hKl, HK1.out]) (fun x hx => (HS.out.mem x).2 (.inl hx))
      have hlt : (K1.set i true).length - cntS (K1.set i true) < m := by
        rw [hK2] at hc2 ⊢
        omega
      have hlst2 : Lst (K1.set i true) (l ++ new) := (HS.out.lst Hlst.out).set (by rw [HK1.out]; exact hi)
      have Hcall := Lib.hid (callsIn_wide.1 (Hih.out _ hlt (K1.set i true) (l ++ new) vl1 ob _ W2.drew L' hK2 (Nat.le_refl _) hlst2 Huo.out (fun v hv => fieldsAt_in (i := (i : Int)) (by rw [Hfo.out]; exact hv)) HM2.out.drew))
      clear hc1 hc2 hc3 hlt
      gi_wp2
      rw [HW2.out]
      refine region_round_tail 7 (by kernel_rfl) (by kernel_rfl) (by kernel_rfl) (by rintro ⟨a, w, h⟩; exact h) ?_
      simp only [List.take_succ_cons, List.take_zero, List.drop_succ_cons, List.drop_zero]
      repeat still_step
      try refine wpStill_nil ?_
      go_wp2_with fail
      refine Hcall.out.mono ?_
      rintro e w5 ⟨K3, new2, vl2, rfl, hS3, hM3, hk3⟩
      have hlst3 := hS3.lst hlst2
      have hln := hlst3.len
      rw [hS3.len, hK2] at hln
      rw [← Hfo.out] at hS3
      have hS4 := HS.out.take Hb.out hS3
      have HS4 := Lib.hid hS4
      have Hk3 := Lib.hid ((KeepsOthers.drew _).trans hk3)
      clear hS3 hS4 hlst3 hlst2 hk3
      obtain ⟨ll, hll⟩ : ∃ ll : List Int, l ++ new ++ new2 = ll := ⟨_, rfl⟩
      rw [hll] at hM3 hln
      have Hll := Lib.hid hll
      clear hll
      go_wp2
      have q6 : w5.cell? ⟨E.bl, 0, none⟩ = some vl2 := by have := hM3.cell 4 rfl 0; simpa using this
      obtain ⟨al, cl, rfl⟩ := hM3.intsSlice 5 rfl
      have HM3 := Lib.hid hM3
      clear hM3
      gi_wp2_with (gi_at_builtin; refine list_in (freed_round _) rfl (by intro c h; cases h) ?_; refine Mem.wp_appI elemInts rfl (.tmp 26) (.tmp 28) rfl HM3.out 5 rfl rfl _ (i : Int) _ _ rfl (by simp) (by omega) ?_; intro ad n1 cp w6 hn1 hM6 hs6 hk6 ha6; refine ⟨rfl, ?_⟩; have u0 : w6.frozen? ⟨E.bl, 0, none⟩ = false := hM6.free 4 rfl 0; have u1 : w6.cell? ⟨E.bl, 0, none⟩ = some (.slice al ll.length cl) := (by have := hM6.cell 4 rfl 0; simpa using this))
      have hko6 : KeepsOthers w5 w6 := ⟨by omega, HM3.out.keeps 5 rfl (by omega) hk6⟩
      have hM7 := hM6.setBox 4 rfl 0 (.slice ad n1 cp)
      have hkW7 := ((HkW.out.trans Hk3.out).trans hko6).trans (KeepsOthers.setCell w6 ⟨E.bl, 0, none⟩ (.slice ad n1 cp))
      refine ⟨hkW7.from _, below_between HM.out.below hM7.below hkW7.size, K3, new ++ (new2 ++ [(i : Int)]), .slice ad n1 cp, ?_, Hko.out.trans hkW7, ?_⟩
      · rw [List.map_append, Hpl.out]
        exact HS4.out
      · exact hM7.cast (by simp [← Hll.out])
  case done =>
    rintro D1 xs W hD1 hxs ⟨K1, new, vl1, hS, hko, hM⟩ hK1
    rw [hxs] at hS
    have hbig : w.heap.size ≤ D1 := Nat.le_trans Hko3.out.size hD1
    have hM7 := hM.addDef' (D := D1) (Nat.le_trans hM1.base hD1) hK1 (calm_cons (ebox_calm _ _ _ _) (calm_cons (rowS_calm _ _ _) (calm_cons (ebox_calm _ _ _ _) (calm_cons (ebox_calm _ _ _ _) (calm_cons (ebox_calm _ _ _ _) (calm_cons (rowI_calm _ _ _ _) (fun x hx => (fun W' B0 hok b hb => by
      rcases hcalm x hx W' B0 hok b hb with h1 | h1
      · exact .inl (Nat.lt_of_lt_of_le h1 hD1)
      · exact .inr h1))))))))
    have HM7 := Lib.hid hM7
    have HS2 := Lib.hid hS
    have Hko4 := Lib.hid hko
    clear hM hM7 hS hxs hK1 hko
    gi_wp2
    refine leaves_marks2 (v := .tuple #[]) [D1] _ HM7.out Hko4.out (by intro D hD; simp at hD; subst hD; exact hbig) ?_
    intro W' hM8 hko8
    exact ⟨by simp [results, Try.results63, go_sem], K1, new, vl1, rfl, HS2.out, hM8, hko8⟩

theorem post_all (E : PostEnv) (hE : E.Ok) : ∀ m, PostC E m := fun m => by
  induction m using Nat.strongRecOn with
  | _ m ih => exact post_step E hE m ih
end Go.Proofs.Ytnpbdabboecpaaa
