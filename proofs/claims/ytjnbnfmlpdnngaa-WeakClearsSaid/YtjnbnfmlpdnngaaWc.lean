/- weak.keep, walked. -/
import Derived.Test.YtjnbnfmlpdnngaaWb
import Derived.Test.YtjnbnfmlpdnngaaTy
import Derived.Test.YtjnbnfmlpdnngaaPv
import Derived.Laws.EntriesVeiled
namespace Go.Proofs.Ytjnbnfmlpdnngaa
open Go.RowKit Go.Shelf

attribute [local go_sem] Oper.semAt_some

def rowB (v : Value) (K : List Bool) : Ent := erow 4 1 v K.length (K.map .bool)
theorem rowB_calm (B : Nat) (v : Value) (K : List Bool) : (rowB v K).Calm B := erow_calm B _ 1 v _ _
theorem isBools_own {B : Nat} {w0 w : World} {L : List Ent} (h : Mem B w0 w L) (k : Nat) {v : Value} {K : List Bool} (hk : L[k]? = some (rowB v K)) (hl : K.length ≤ 1000000) : IsBools w v K := by
  have hr : w.ownsRow B 4 1 v K.length (K.map .bool) := h.row k hk
  rcases hr.2 with ⟨rfl, h0⟩ | ⟨g, cap, cur, rfl, _, hg, _⟩
  · have : K = [] := List.eq_nil_of_length_eq_zero h0
    subst this
    exact ⟨none, 0, rfl, by simp, by simp⟩
  · refine ⟨_, cap, rfl, by omega, fun j x hx => ?_⟩
    have hj : j < K.length := (List.getElem?_eq_some_iff.1 hx).1
    refine ⟨g, 0, rfl, (Array.getElem?_eq_some_iff.1 hg).1, ?_⟩
    rw [Nat.zero_add, hr.cellAt _ (by omega)]
    simp [hx]
def refsOf (l : List Int) : List V := l.map fun n => ⟨true, n⟩
theorem refsOf_snoc (l : List Int) (n : Int) : refsOf (l ++ [n]) = refsOf l ++ [⟨true, n⟩] := by simp [refsOf]
theorem KeepS.of_targets {g : G} {ks : List Int} {K K' : List Bool} {vs : List V} {more : Bool} (h : KeepS g ks K K' (refsOf (targets vs)) more) : KeepS g ks K K' vs more := by
  refine ⟨h.len, h.sub, ?_, ?_, h.no, h.yes⟩
  · intro v hv hr
    exact h.has ⟨true, v.n⟩ (List.mem_map.2 ⟨v.n, mem_targets hv hr, rfl⟩) rfl
  · intro S hS hK hvs
    refine h.least S hS hK ?_
    intro u hu _
    obtain ⟨n, hn, rfl⟩ := List.mem_map.1 hu
    exact hvs ⟨true, n⟩ (mem_of_target hn) rfl

/-- What stands around a keeper's walk: the graph and the kinds, as they came in; the keeper's block, and the slice of what is kept. -/
structure KeepEnv where
  g : G
  ks : List Int
  w0 : World
  vo : Value
  vr : Value
  vk : Value
  Bk : Nat
  gK : Nat
structure KeepEnv.Ok (E : KeepEnv) : Prop where
  good : Good E.g
  objs : IsObjs E.w0 E.vo E.g.objs
  room : RoomO E.w0 E.vo E.g.objs
  kinds : IsInts E.w0 E.vk E.ks
  len : E.ks.length = E.g.objs.length
@[reducible] def KeepEnv.vK (E : KeepEnv) : Value := .slice (some ⟨E.gK, 0, none⟩) E.g.objs.length E.g.objs.length
@[reducible] def KeepEnv.own (E : KeepEnv) (K : List Bool) (L' : List Ent) : List Ent := ebox E.Bk #[E.vo, E.vr, E.vk, E.vK] 149 :: rowB E.vK K :: L'
def KeepSays (E : KeepEnv) (K : List Bool) (vs : List V) (L' : List Ent) (w w' : World) (e : Ending) : Prop :=
  ∃ K' more, e = .returned (.bool more) ∧ KeepS E.g E.ks K K' vs more ∧ Mem E.w0.heap.size E.w0 w' (E.own K' L') ∧ KeepsOthers w w'
def KeepC (E : KeepEnv) (m : Nat) : Prop := ∀ (K : List Bool) (vs : List V) (u : Value) (w : World) (L' : List Ent), K.length = E.g.objs.length → K.length - cnt K ≤ m → IsVals E.w0 u vs → (∀ v ∈ vs, v ∈ allV E.g) →
  Mem E.w0.heap.size E.w0 w (E.own K L') → CallsIn Fence.wide 10 Try.prog 67 #[.pointer (some ⟨E.Bk, 0, none⟩), u] w fun e w' => KeepSays E K vs L' w w' e

theorem keeper_of {E : KeepEnv} {w : World} {K : List Bool} {L' : List Ent} (h : Mem E.w0.heap.size E.w0 w (E.own K L')) (hl : K.length = E.g.objs.length) (hn : E.g.objs.length ≤ 24) : IsKeeper w E.Bk E.vo E.vr E.vk E.vK K := by
  have hb := h.box 0 rfl
  refine ⟨hb.2.1, ?_, ?_, ?_, ?_, isBools_own h 1 rfl (by omega)⟩
  · have := h.cell 0 rfl 0; simpa using this
  · have := h.cell 0 rfl 1; simpa using this
  · have := h.cell 0 rfl 2; simpa using this
  · have := h.cell 0 rfl 3; simpa using this

set_option maxRecDepth 100000 in
set_option maxHeartbeats 4000000 in
theorem keep_step (E : KeepEnv) (hE : E.Ok) (m : Nat) (ih : ∀ m', m' < m → KeepC E m') : KeepC E m := by
  intro K vs u w L' hKl hm hu hvs hM
  obtain ⟨au, cu, rfl, hlu⟩ := hu.slice
  have Hu := Lib.hid hu
  have HE := Lib.hid hE
  have Hih := Lib.hid ih
  have hn := hE.good.objs
  have Hvs := Lib.hid hvs
  have hM0 := (hM.alloc #[.pointer (some ⟨E.Bk, 0, none⟩)] 101).allocAt (w.heap.size + 1) (by simp) #[.bool false] 4
  have hk0 : KeepsOthers w ((w.alloc (.cells #[.pointer (some ⟨E.Bk, 0, none⟩)] 101)).alloc (.cells #[.bool false] 4)) := (KeepsOthers.alloc _ _).trans (KeepsOthers.alloc _ _)
  have HM0 := Lib.hid hM0
  have Hk0 := Lib.hid hk0
  clear hE ih hu hvs hM0 hk0
  refine callsIn_of_wp_marks Try.func67 rfl trivial ?_ rfl
  simp only [Try.ntmps67, List.size_toArray, List.length_cons, List.length_nil, Nat.reduceAdd, Nat.reduceSub, Array.replicate_succ, Array.replicate_zero, List.push_toArray, List.append_toArray, List.nil_append, List.cons_append]
  gi_wp2_with fail
  refine ⟨trivial, (targets_opaque _ _ _ _ _).mono ?_⟩
  rintro e w3 ⟨Bs, rfl, hb3, hBs, hcs⟩
  have hM1 : Mem E.w0.heap.size E.w0 w3 (E.own K (ebox (w.heap.size + 1) #[.bool false] 4 :: ebox w.heap.size #[.pointer (some ⟨E.Bk, 0, none⟩)] 101 :: L')) := by
    have h := HM0.out.call hb3
    refine h.perm ?_
    exact List.Perm.trans (List.perm_append_comm (l₁ := [_, _]) (l₂ := [_, _]) |>.append_right L') (List.Perm.refl _)
  have hko3 := Hk0.out.trans (show KeepsOthers _ w3 from ⟨hb3.size, fun k _ hk _ => (hb3.block k (Array.getElem?_eq_some_iff.1 hk).1).trans hk⟩)
  have Hko3 := Lib.hid hko3
  clear hko3 HM0 Hk0 hb3
  have hcalm := calm_of hM1 (L' := L') (fun x hx => List.mem_cons_of_mem _ (List.mem_cons_of_mem _ (List.mem_cons_of_mem _ (List.mem_cons_of_mem _ hx))))
  have hst0 : KeepS E.g E.ks K K (refsOf []) false := KeepS.nil _ _ _
  gi_wp2
  refine range_slot (by omega) (gf := 79) (lb := #[.pointer (some ⟨Bs, 0, none⟩)]) rfl (enters_of Try.func79 (by kernel_rfl) rfl)
    (targets_stops _ (by omega) Bs vs _ E.w0 Hu.out w3 hM1.below hBs hcs) hM1.base
    (fun pre W => ∃ K1 mo, (KeepS E.g E.ks K K1 (refsOf (pre.map (·.1))) mo) ∧ KeepsOthers w W ∧ Mem E.w0.heap.size E.w0 W (E.own K1 (ebox (w.heap.size + 1) #[.bool mo] 4 :: ebox w.heap.size #[.pointer (some ⟨E.Bk, 0, none⟩)] 101 :: L')))
    (fun _ _ _ => False) ?own (fun _ => ownFrom_false _) ⟨K, false, hst0, Hko3.out, hM1⟩ 6 (fun x => .int .i64 x.1) ?assign ?body ?done ?stop
  case own =>
    refine ownFrom_ex fun K1 => ownFrom_ex fun mo => ownFrom_and (p := fun pre : List (Tg vs) => KeepS E.g E.ks K K1 (refsOf (pre.map (·.1))) mo) ?_
    intro s W W' row hs hg hr
    refine ⟨ownFrom_keeps (β := Unit) (B := w3.heap.size) Hko3.out.size () W W' row hs.1 hg hr, ?_⟩
    exact ownFrom_mem (β := Unit) (fun _ => E.own K1 (ebox (w.heap.size + 1) #[.bool mo] 4 :: ebox w.heap.size #[.pointer (some ⟨E.Bk, 0, none⟩)] 101 :: L')) hM1.base
      (fun _ => calm_cons (ebox_calm _ _ _ _) (calm_cons (rowB_calm _ _ _) (calm_cons (ebox_calm _ _ _ _) (calm_cons (ebox_calm _ _ _ _) hcalm)))) () W W' row hs.2 hg hr
  case assign =>
    intro l x W Kk hK
    simp only [laid]
    gi_wp2
    exact hK
  case stop => rintro D c pre W hD hpre hf hK; exact hf.elim
  case body =>
    rintro l pre ⟨x, hx⟩ W hsz ⟨K1, mo, hS, hko, hM⟩ hlen
    have hxv := mem_of_target hx
    have hxin := ref_in' HE.out.good (Hvs.out _ hxv)
    obtain ⟨i, rfl⟩ : ∃ i : Nat, x = (i : Int) := ⟨x.toNat, by omega⟩
    have hi : i < E.g.objs.length := by omega
    have hK1 : K1.length = E.g.objs.length := by rw [hS.len, hKl]
    obtain ⟨b, hb⟩ := get_some K1 i (by omega)
    have hkp := keeper_of hM hK1 hn
    obtain ⟨bz, oz, cz, hv, hbz, c4⟩ := hkp.kept.at hb
    rw [hK1] at hv
    cases hv
    rw [Nat.zero_add] at c4
    have c3 := hkp.c3
    have zk := hkp.lt
    obtain ⟨pl, hpl⟩ : ∃ pl : List Int, pre.map (·.1) = pl := ⟨_, rfl⟩
    rw [hpl] at hS
    have Hpl := Lib.hid hpl
    have q0 : W.cell? ⟨w.heap.size, 0, none⟩ = some (.pointer (some ⟨E.Bk, 0, none⟩)) := by have := hM.cell 3 rfl 0; simpa using this
    have q1 : W.cell? ⟨w.heap.size + 1, 0, none⟩ = some (.bool mo) := by have := hM.cell 2 rfl 0; simpa using this
    have HM := Lib.hid hM
    have HS := Lib.hid hS
    have Hb := Lib.hid hb
    have HK1 := Lib.hid hK1
    have Hko := Lib.hid hko
    clear hpl hS hM hxv hxin hlen hsz hkp hb hK1 hko
    simp only [laid]
    cases b with
    | true =>
      have hkx : kp K1 (i : Int) = true := by
        unfold kp
        rw [Int.toNat_natCast, List.getD_eq_getElem?_getD, Hb.out]
        simp
      have Hs2 := Lib.hid (HS.out.skip ⟨true, (i : Int)⟩ (fun _ => hkx))
      clear hkx
      gi_wp2
      refine ⟨KeepsFrom.refl _ _, Below.refl _ _, K1, mo, ?_, Hko.out, HM.out⟩
      rw [List.map_append, Hpl.out]
      simp only [List.map_cons, List.map_nil]
      rw [refsOf_snoc]
      exact Hs2.out
    | false =>
      have hM2 : Mem E.w0.heap.size E.w0 (W.setCell ⟨E.gK, i, none⟩ (.bool true)) (E.own (K1.set i true) (ebox (w.heap.size + 1) #[.bool mo] 4 :: ebox w.heap.size #[.pointer (some ⟨E.Bk, 0, none⟩)] 101 :: L')) := by
        have h := HM.out
        unfold KeepEnv.own rowB KeepEnv.vK at h ⊢
        rw [← HK1.out] at h ⊢
        exact (h.setRow 1 rfl i (.bool true)).cast (by simp [List.map_set])
      have f4 : W.frozen? ⟨E.gK, i, none⟩ = false := by
        have h := HM.out
        unfold KeepEnv.own rowB KeepEnv.vK at h
        rw [← HK1.out] at h
        exact (h.row 1 rfl).frozenAt i
      have q2 : (W.setCell ⟨E.gK, i, none⟩ (.bool true)).cell? ⟨w.heap.size, 0, none⟩ = some (.pointer (some ⟨E.Bk, 0, none⟩)) := by have := hM2.cell 3 rfl 0; simpa using this
      have HM2 := Lib.hid hM2
      clear hM2
      gi_wp2
      have hkW : KeepsOthers W (W.setCell ⟨E.gK, i, none⟩ (.bool true)) := KeepsOthers.setCell W _ _
      obtain ⟨W2, hW2⟩ : ∃ W2, W.setCell ⟨E.gK, i, none⟩ (.bool true) = W2 := ⟨_, rfl⟩
      rw [hW2] at q2 HM2 hkW ⊢
      clear hW2
      have hMd := HM2.out.drew
      have hK2 : (K1.set i true).length = E.g.objs.length := by rw [List.length_set]; exact HK1.out
      have hc1 := cnt_set K1 Hb.out
      have hc2 := cnt_le (K1.set i true)
      have hc3 : cnt K ≤ cnt K1 := by
        cases hmo : mo with
        | false => have := HS.out.no hmo; rw [this]; exact Nat.le_refl _
        | true => exact Nat.le_of_lt (HS.out.yes hmo)
      have hlt : (K1.set i true).length - cnt (K1.set i true) < m := by
        rw [hK2] at hc2 ⊢
        omega
      have hsub : ∀ v ∈ strongL E.g E.ks (K1.set i true) i, v ∈ allV E.g := fun v hv => fields_in _ _ _ ((mem_strong.1 hv).field)
      have Hstrong := Lib.hid (strong_any E.g HE.out.good E.ks E.w0 _ E.Bk E.vo E.vr E.vk E.vK (K1.set i true) i hi HE.out.objs HE.out.room HE.out.kinds HE.out.len hMd.below (keeper_of hMd hK2 hn) hK2)
      have Hkeep : Hid (∀ u2 w5, IsVals E.w0 u2 (strongL E.g E.ks (K1.set i true) i) → Mem E.w0.heap.size E.w0 w5 (E.own (K1.set i true) (ebox (w.heap.size + 1) #[.bool mo] 4 :: ebox w.heap.size #[.pointer (some ⟨E.Bk, 0, none⟩)] 101 :: L')) →
          Calls Try.prog 67 #[.pointer (some ⟨E.Bk, 0, none⟩), u2] w5 fun e w' => KeepSays E (K1.set i true) (strongL E.g E.ks (K1.set i true) i) (ebox (w.heap.size + 1) #[.bool mo] 4 :: ebox w.heap.size #[.pointer (some ⟨E.Bk, 0, none⟩)] 101 :: L') w5 w' e) :=
        Lib.hid (fun u2 w5 hu2 hM5 => callsIn_wide.1 (Hih.out _ hlt (K1.set i true) _ u2 w5 _ hK2 (Nat.le_refl _) hu2 hsub hM5))
      have HMd := Lib.hid hMd
      clear hMd hc1 hc2 hc3 hlt hsub
      refine wpIn_region_any (by kernel_rfl) (any_round (by kernel_rfl) (by rintro ⟨a, w, h⟩; exact h) _ _ _ _ ?_)
      change wpAny _ _ _ _ _ _ _ (World.drew _)
      refine wpAny_take (i := 2) (v := ?_) rfl (by kernel_rfl) (by kernel_rfl) (by kernel_rfl) (fun _ _ _ h => h) (Or.inl ⟨by rfl, ?hy⟩) ?rest
      case hy =>
        intro w
        go_simp
        with_reducible rfl
      case rest =>
        refine wpAny_ready (rs := [0, 1]) (by kernel_rfl) (by simp) ?_
        refine AllReady.cons rfl (fun K hK => ?_) (AllReady.cons rfl (fun K hK => ?_) AllReady.nil)
        · (go_simp; refine hK _ _ ?_; clear hK K)
          refine wpAny_ready (rs := [1]) (by kernel_rfl) (by simp) ?_
          refine AllReady.cons rfl (fun K hK => ?_) AllReady.nil
          (go_simp; refine hK _ _ ?_; clear hK K)
          refine wpAny_ready (rs := [3]) (by kernel_rfl) (by simp) ?_
          refine AllReady.cons rfl (fun K hK => ?_) AllReady.nil
          (go_simp; refine Hstrong.out.mono ?_; rintro e w5 ⟨u2, rfl, hu2, hb5⟩; (try simp only []); refine hK _ _ ?_; clear hK K; have hM5 := HMd.out.call hb5; have hk5 : KeepsOthers W w5 := (hkW.trans (KeepsOthers.drew _)).trans ⟨hb5.size, fun k _ hk _ => (hb5.block k (Array.getElem?_eq_some_iff.1 hk).1).trans hk⟩; have q5 : w5.cell? ⟨w.heap.size, 0, none⟩ = some (.pointer (some ⟨E.Bk, 0, none⟩)) := (by have := hM5.cell 3 rfl 0; simpa using this))
          refine wpAny_ready (rs := [4]) (by kernel_rfl) (by simp) ?_
          refine AllReady.cons rfl (fun K hK => ?_) AllReady.nil
          go_simp
          refine (Hkeep.out u2 w5 hu2 hM5).mono ?_
          rintro e w6 ⟨K3, mo2, rfl, hS3, hM6, hk6⟩
          try simp only []
          refine hK _ _ ?_
          clear hK K
          refine wpAny_done (by kernel_rfl) ?_ _
          have hS4 := HS.out.take Hb.out hS3
          have q3 : w6.cell? ⟨w.heap.size + 1, 0, none⟩ = some (.bool mo) := by have := hM6.cell 2 rfl 0; simpa using this
          have f3 : w6.frozen? ⟨w.heap.size + 1, 0, none⟩ = false := hM6.free 2 rfl 0
          have hM7 := hM6.setBox 2 rfl 0 (.bool true)
          have HS4 := Lib.hid hS4
          have HM7 := Lib.hid hM7
          have Hk6 := Lib.hid (hk5.trans hk6)
          clear hS3 hM6 hk6 hS4 hM7 hk5 hM5 hb5 hu2
          gi_wp2
          refine ⟨(Hk6.out.trans (KeepsOthers.setCell _ _ _)).from _, below_between HM.out.below HM7.out.below (by simp; exact Hk6.out.size), K3, true, ?_, (Hko.out.trans Hk6.out).trans (KeepsOthers.setCell _ _ _), HM7.out⟩
          rw [List.map_append, Hpl.out]
          simp only [List.map_cons, List.map_nil]
          rw [refsOf_snoc]
          exact HS4.out
        · (go_simp; refine hK _ _ ?_; clear hK K)
          refine wpAny_ready (rs := [0, 3]) (by kernel_rfl) (by simp) ?_
          refine AllReady.cons rfl (fun K hK => ?_) (AllReady.cons rfl (fun K hK => ?_) AllReady.nil)
          · (go_simp; refine hK _ _ ?_; clear hK K)
            refine wpAny_ready (rs := [3]) (by kernel_rfl) (by simp) ?_
            refine AllReady.cons rfl (fun K hK => ?_) AllReady.nil
            (go_simp; refine Hstrong.out.mono ?_; rintro e w5 ⟨u2, rfl, hu2, hb5⟩; (try simp only []); refine hK _ _ ?_; clear hK K; have hM5 := HMd.out.call hb5; have hk5 : KeepsOthers W w5 := (hkW.trans (KeepsOthers.drew _)).trans ⟨hb5.size, fun k _ hk _ => (hb5.block k (Array.getElem?_eq_some_iff.1 hk).1).trans hk⟩; have q5 : w5.cell? ⟨w.heap.size, 0, none⟩ = some (.pointer (some ⟨E.Bk, 0, none⟩)) := (by have := hM5.cell 3 rfl 0; simpa using this))
            refine wpAny_ready (rs := [4]) (by kernel_rfl) (by simp) ?_
            refine AllReady.cons rfl (fun K hK => ?_) AllReady.nil
            go_simp
            refine (Hkeep.out u2 w5 hu2 hM5).mono ?_
            rintro e w6 ⟨K3, mo2, rfl, hS3, hM6, hk6⟩
            try simp only []
            refine hK _ _ ?_
            clear hK K
            refine wpAny_done (by kernel_rfl) ?_ _
            have hS4 := HS.out.take Hb.out hS3
            have q3 : w6.cell? ⟨w.heap.size + 1, 0, none⟩ = some (.bool mo) := by have := hM6.cell 2 rfl 0; simpa using this
            have f3 : w6.frozen? ⟨w.heap.size + 1, 0, none⟩ = false := hM6.free 2 rfl 0
            have hM7 := hM6.setBox 2 rfl 0 (.bool true)
            have HS4 := Lib.hid hS4
            have HM7 := Lib.hid hM7
            have Hk6 := Lib.hid (hk5.trans hk6)
            clear hS3 hM6 hk6 hS4 hM7 hk5 hM5 hb5 hu2
            gi_wp2
            refine ⟨(Hk6.out.trans (KeepsOthers.setCell _ _ _)).from _, below_between HM.out.below HM7.out.below (by simp; exact Hk6.out.size), K3, true, ?_, (Hko.out.trans Hk6.out).trans (KeepsOthers.setCell _ _ _), HM7.out⟩
            rw [List.map_append, Hpl.out]
            simp only [List.map_cons, List.map_nil]
            rw [refsOf_snoc]
            exact HS4.out
          · (go_simp; refine Hstrong.out.mono ?_; rintro e w5 ⟨u2, rfl, hu2, hb5⟩; (try simp only []); refine hK _ _ ?_; clear hK K; have hM5 := HMd.out.call hb5; have hk5 : KeepsOthers W w5 := (hkW.trans (KeepsOthers.drew _)).trans ⟨hb5.size, fun k _ hk _ => (hb5.block k (Array.getElem?_eq_some_iff.1 hk).1).trans hk⟩; have q5 : w5.cell? ⟨w.heap.size, 0, none⟩ = some (.pointer (some ⟨E.Bk, 0, none⟩)) := (by have := hM5.cell 3 rfl 0; simpa using this))
            refine wpAny_ready (rs := [0]) (by kernel_rfl) (by simp) ?_
            refine AllReady.cons rfl (fun K hK => ?_) AllReady.nil
            (go_simp; refine hK _ _ ?_; clear hK K)
            refine wpAny_ready (rs := [4]) (by kernel_rfl) (by simp) ?_
            refine AllReady.cons rfl (fun K hK => ?_) AllReady.nil
            go_simp
            refine (Hkeep.out u2 w5 hu2 hM5).mono ?_
            rintro e w6 ⟨K3, mo2, rfl, hS3, hM6, hk6⟩
            try simp only []
            refine hK _ _ ?_
            clear hK K
            refine wpAny_done (by kernel_rfl) ?_ _
            have hS4 := HS.out.take Hb.out hS3
            have q3 : w6.cell? ⟨w.heap.size + 1, 0, none⟩ = some (.bool mo) := by have := hM6.cell 2 rfl 0; simpa using this
            have f3 : w6.frozen? ⟨w.heap.size + 1, 0, none⟩ = false := hM6.free 2 rfl 0
            have hM7 := hM6.setBox 2 rfl 0 (.bool true)
            have HS4 := Lib.hid hS4
            have HM7 := Lib.hid hM7
            have Hk6 := Lib.hid (hk5.trans hk6)
            clear hS3 hM6 hk6 hS4 hM7 hk5 hM5 hb5 hu2
            gi_wp2
            refine ⟨(Hk6.out.trans (KeepsOthers.setCell _ _ _)).from _, below_between HM.out.below HM7.out.below (by simp; exact Hk6.out.size), K3, true, ?_, (Hko.out.trans Hk6.out).trans (KeepsOthers.setCell _ _ _), HM7.out⟩
            rw [List.map_append, Hpl.out]
            simp only [List.map_cons, List.map_nil]
            rw [refsOf_snoc]
            exact HS4.out
  case done =>
    rintro D1 xs W hD1 hxs ⟨K1, mo, hS, hko, hM⟩ hK1
    rw [hxs] at hS
    have hS2 := hS.of_targets
    have hbig : w.heap.size ≤ D1 := Nat.le_trans Hko3.out.size hD1
    have hM7 := hM.addDef' (D := D1) (Nat.le_trans hM1.base hD1) hK1 (calm_cons (ebox_calm _ _ _ _) (calm_cons (rowB_calm _ _ _) (calm_cons (ebox_calm _ _ _ _) (calm_cons (ebox_calm _ _ _ _) (fun x hx => (fun W' B0 hok b hb => by
      rcases hcalm x hx W' B0 hok b hb with h1 | h1
      · exact .inl (Nat.lt_of_lt_of_le h1 hD1)
      · exact .inr h1))))))
    have q1 : W.cell? ⟨w.heap.size + 1, 0, none⟩ = some (.bool mo) := by have := hM.cell 2 rfl 0; simpa using this
    have HM7 := Lib.hid hM7
    have HS2 := Lib.hid hS2
    have Hko4 := Lib.hid hko
    clear hM hM7 hS hS2 hxs hK1 hko
    gi_wp2
    refine leaves_marks2 (v := .bool mo) [D1] _ HM7.out Hko4.out (by intro D hD; simp at hD; subst hD; exact hbig) ?_
    intro W' hM8 hko8
    refine ⟨by simp [results, Try.results67, go_sem], K1, mo, rfl, HS2.out, ?_, hko8⟩
    exact hM8.drop (by
      refine List.Sublist.cons_cons _ (List.Sublist.cons_cons _ ?_)
      exact (List.Sublist.refl _).cons _ |>.cons _)

theorem keep_all (E : KeepEnv) (hE : E.Ok) : ∀ m, KeepC E m := fun m => by
  induction m using Nat.strongRecOn with
  | _ m ih => exact keep_step E hE m ih
/-- weak.keep. -/
theorem keep_any (E : KeepEnv) (hE : E.Ok) (K : List Bool) (vs : List V) (u : Value) (w : World) (L' : List Ent) (hl : K.length = E.g.objs.length) (hu : IsVals E.w0 u vs) (hvs : ∀ v ∈ vs, v ∈ allV E.g)
    (hM : Mem E.w0.heap.size E.w0 w (E.own K L')) : Calls Try.prog 67 #[.pointer (some ⟨E.Bk, 0, none⟩), u] w fun e w' => KeepSays E K vs L' w w' e :=
  callsIn_wide.1 (keep_all E hE _ K vs u w L' hl (Nat.le_refl _) hu hvs hM)
end Go.Proofs.Ytjnbnfmlpdnngaa
