/- The search for components, walked. -/
import Derived.Test.YtnpbdabboecpaaaN2
import Derived.Test.YtnpbdabboecpaaaN3
import Derived.Test.YtnpbdabboecpaaaSo
import Derived.Deep.RegionHeld3
import Derived.Deep.DeepCutAuto
import Derived.Deep.CutRange
import Derived.Deep.LoopGhost
import Derived.StillTailTactics
import Derived.Deep.QuietTactic
import Derived.BigQuiet
namespace Go.Proofs.Ytnpbdabboecpaaa
open Go.RowKit Go.Shelf Tarj

attribute [local go_sem] Oper.semAt_some
def ldSt : Op := Op.load 27 (Operand.tmp 12)
theorem ldSt_eq : Op.load 27 (Operand.tmp 12) = ldSt := rfl
attribute [local go_sem] ldSt
def ldAll : Op := Op.load 31 (Operand.tmp 178)
theorem ldAll_eq : Op.load 31 (Operand.tmp 178) = ldAll := rfl
attribute [local go_sem] ldAll

theorem own_calm (E : CompEnv) (s : CS) (T : List Ent) (B : Nat) (h : ∀ x ∈ T, x.Calm B) : ∀ x ∈ E.own s T, x.Calm B := by
  refine calm_cons (ebox_calm _ _ _ _) (calm_cons (rowI_calm _ _ _ _) (calm_cons (rowI_calm _ _ _ _) (calm_cons (rowI_calm _ _ _ _) (calm_cons (rowI_calm _ _ _ _) (calm_cons (rowR_calm _ _ _) ?_)))))
  intro x hx
  rcases List.mem_append.1 hx with hx | hx
  · exact h x hx
  · exact rowsI_calm B s.fs x hx

theorem sort_keeps (B : Nat) (w0 w : World) (L : List Ent) (hM : Mem B w0 w L) (k : Nat) (e : TypeId) (v : Value) (l : List Int) (hk : L[k]? = some (rowI e v l)) (hl : l.length ≤ 1000000) :
    Calls Try.prog 34 #[v] w fun e' w' => e' = .returned (.tuple #[]) ∧ Mem B w0 w' (L.set k (rowI e v (sorted l))) ∧ KeepsOthers w w' := by
  have hown := hM.ownI k hk
  have hget := hM.get k hk
  rcases hown.2 with ⟨rfl, h0⟩ | ⟨g, cap, cur, rfl, hB, hg, hn, hcap, hcs, htk⟩
  · have h1 : l = [] := List.eq_nil_of_length_eq_zero h0
    subst h1
    refine (Try.slices_Sort_int_none none 0 w).mono ?_
    rintro e' w' ⟨rfl, rfl⟩
    refine ⟨rfl, hM.cast ?_, KeepsOthers.refl _⟩
    rw [show sorted [] = [] by simp [sorted]]
    have hkl := (List.getElem?_eq_some_iff.1 hk)
    obtain ⟨h1, h2⟩ := hkl
    rw [← h2, List.set_getElem_self]
  · rw [Nat.mul_one] at htk
    refine (Try.slices_Sort_int g 0 cap l w (holds_of_blockI hg htk) (Array.getElem?_eq_some_iff.1 hg).1 (by omega)).mono ?_
    rintro e' w' ⟨rfl, n, os, rfl⟩
    have hs := ownsRow_sortedI (n := n) (os := os) (e := e) (base := B) (ts := sorted l) (ss := l) (length_sorted l) hB hg hn hcap hcs
    refine ⟨rfl, hM.turn k hk (grownBy_sortedI _) ?_ (fun b hb => .inl hb), KeepsOthers.of_grownBy (grownBy_sortedI _) (by intro j o hj ho; cases hj; rw [hg] at ho; cases ho; rfl)⟩
    have hrow := row_ok.2 hs
    unfold rowI
    rw [length_sorted]
    exact hrow
/-- A shorter part of a slice of ints. -/
theorem Mem.shrinkI' {B : Nat} {w0 w : World} {L : List Ent} (h : Mem B w0 w L) (k : Nat) {e : TypeId} {b n cap : Nat} {l l' : List Int} (hk : L[k]? = some (rowI e (.slice (some ⟨b, 0, none⟩) n cap) l)) (hl : l'.length ≤ l.length) (hp : l' <+: l) (hn : l.length = n) :
    Mem B w0 w (L.set k (rowI e (.slice (some ⟨b, 0, none⟩) l'.length cap) l')) := by
  have hr := h.row k hk
  refine h.turn k hk ⟨rfl, rfl, rfl, Nat.le_refl _, fun i _ _ => rfl⟩ (row_ok.2 ?_) fun b' e => .inl e
  refine ⟨by simp, .inr ?_⟩
  rcases hr.2 with ⟨h1, _⟩ | ⟨g, cap', cur, hv, hB, hg, h1, h2, h3, h4⟩
  · cases h1
  · cases hv
    refine ⟨_, _, cur, rfl, hB, hg, by omega, h2, h3, ?_⟩
    obtain ⟨t, rfl⟩ := hp
    have h5 := congrArg (List.take l'.length) h4
    rw [List.take_take, List.map_append, List.take_left' (by simp)] at h5
    rw [Nat.mul_one] at h5 ⊢
    rwa [Nat.min_eq_left (by omega)] at h5
theorem Mem.rowRSlice {B : Nat} {w0 w : World} {L : List Ent} (h : Mem B w0 w L) (k : Nat) {v : Value} {vs : List Value} (hk : L[k]? = some (rowR v vs)) : ∃ a c, v = .slice a vs.length c := by
  have hr : w.ownsRow B 27 1 v vs.length vs := h.row k hk
  rcases hr.2 with ⟨rfl, h0⟩ | ⟨g, cap, cur, rfl, _⟩
  · exact ⟨none, 0, by rw [h0]⟩
  · exact ⟨_, _, rfl⟩
theorem Mem.step_appR' {P : Program} {B : Nat} {w0 w : World} {L : List Ent} {t e : TypeId} {bytes : Nat} {z : Value} (T : Elem P t e 1 bytes z) {ops : Array Oper} {o : Oper} {ac : Act} {K : Act → World → Prop} {Q : Exit → Act → World → Prop} {E : Prop} (hgd : o.guard = none) (s x : Operand)
    (ho : o.op = .call { callee := .builtin .append, args := #[s, x], argTypes := #[t, t] }) (h : Mem B w0 w L) (k : Nat) {v : Value} {n : Nat} {xs : List Value} (hk : L[k]? = some (erow e 1 v n xs))
    (hs : ac.eval s = v) (bl c : Nat) (y : Value) (hx : ac.eval x = .slice (some ⟨bl, 0, none⟩) 1 c) (hc : w.cell? ⟨bl, 0, none⟩ = some y) (h1 : y.oneCell' = true) (hb : bytes ≤ 1000) (hn : n ≤ 1000000)
    (hh : ∀ ad cap w', Mem B w0 w' (L.set k (erow e 1 (.slice ad (n + 1) cap) (n + 1) (xs ++ [y]))) → w.heap.size ≤ w'.heap.size →
      (∀ b, b < w.heap.size → v.ownBlock ≠ some b → w'.heap[b]? = w.heap[b]?) → K (ac.put o.dst (.slice ad (n + 1) cap)) w') :
    if Region.wanted o (yielded ops ac.tmps) = true then Oper.wp P o ac w K Q else E := by
  obtain ⟨v', w', hr, h2, h3, h4, h5, ad, cap, rfl⟩ := h.run_append T o.type k hk ⟨bl, 0, none⟩ 1 c [y] rfl (by
    intro j u hj
    cases j with
    | zero => simp at hj; subst hj; simpa [Addr.add] using hc
    | succ j => simp at hj) (fun u hu => by simp at hu; subst hu; exact h1) (by simp only [maxLen]; omega) (by
    have := Nat.mul_le_mul (show n + 1 ≤ 1000001 by omega) hb
    omega)
  exact step_append_eq' hgd s x t ho hs hx hr (hh ad cap w' h2 h3 h4)
theorem fin_perm {B : Nat} {w0 w : World} {A L' R : List Ent} {r b1 b2 d : Ent} (h : Mem B w0 w (r :: (A ++ (b1 :: b2 :: d :: (L' ++ R))))) : Mem B w0 w (d :: (A ++ (L' ++ (R ++ [r])))) := by
  have h1 : Mem B w0 w (r :: (A ++ (d :: (L' ++ R)))) := h.drop (.cons_cons _ (List.Sublist.append_left (.cons _ (.cons _ (.refl _))) A))
  refine h1.perm ?_
  have e1 : (A ++ (d :: (L' ++ R))).Perm (d :: (A ++ (L' ++ R))) := List.perm_middle
  have e2 : d :: (A ++ (L' ++ (R ++ [r]))) = (d :: (A ++ (L' ++ R))) ++ [r] := by simp
  rw [e2]
  exact (List.perm_append_comm (l₁ := _) (l₂ := [r])).trans (List.Perm.cons r e1.symm)
theorem own_end {E : CompEnv} {s : CS} {x y d : Ent} {L' : List Ent} {B : Nat} {w0 W : World} (h : Mem B w0 W (E.own s (x :: y :: d :: L'))) : Mem B w0 W (d :: E.own s L') := by
  have h2 : Mem B w0 W (E.own s (d :: L')) := by
    refine h.drop ?_
    refine List.Sublist.cons_cons _ (List.Sublist.cons_cons _ (List.Sublist.cons_cons _ (List.Sublist.cons_cons _ (List.Sublist.cons_cons _ (List.Sublist.cons_cons _ ?_)))))
    exact List.Sublist.cons _ (List.Sublist.cons _ (List.Sublist.refl _))
  exact h2.perm (List.perm_middle (l₁ := [_, _, _, _, _, _]) (l₂ := L' ++ rowsI s.fs)).symm

set_option maxRecDepth 100000 in
set_option maxHeartbeats 4000000 in
theorem walk_step (E : CompEnv) (hE : E.Ok) (m : Nat) (ih : ∀ m', m' < m → WalkC E m') : WalkC E m := by
  intro s i gray w L' hok hinv hi0 hgl hm hM
  have hn := hE.good.objs
  have hil : i < E.g.objs.length := by rw [← hok.at_]; exact (List.getElem?_eq_some_iff.1 hi0).1
  have hM0 := (hM.alloc #[.pointer (some ⟨E.Bs, 0, none⟩)] 62).allocAt (w.heap.size + 1) (by simp) #[.int .i64 (i : Int)] 3
  have hk0 : KeepsOthers w ((w.alloc (.cells #[.pointer (some ⟨E.Bs, 0, none⟩)] 62)).alloc (.cells #[.int .i64 (i : Int)] 3)) := (KeepsOthers.alloc _ _).trans (KeepsOthers.alloc _ _)
  have hM1 : Mem E.w0.heap.size E.w0 _ (E.own s (ebox (w.heap.size + 1) #[.int .i64 (i : Int)] 3 :: ebox w.heap.size #[.pointer (some ⟨E.Bs, 0, none⟩)] 62 :: L')) :=
    hM0.perm (List.perm_append_comm (l₁ := [_, _, _, _, _, _]) (l₂ := [_, _]) |>.append_right (L' ++ rowsI s.fs))
  obtain ⟨W, hW⟩ : ∃ W, (w.alloc (.cells #[.pointer (some ⟨E.Bs, 0, none⟩)] 62)).alloc (.cells #[.int .i64 (i : Int)] 3) = W := ⟨_, rfl⟩
  rw [hW] at hM1 hk0
  obtain ⟨bp, hbp⟩ : ∃ bp, w.heap.size = bp := ⟨_, rfl⟩
  rw [hbp] at hM1
  have HE := Lib.hid hE
  have Hih := Lib.hid ih
  have Hok := Lib.hid hok
  have Hinv := Lib.hid hinv
  have Hgl := Lib.hid hgl
  have Hi0 := Lib.hid hi0
  have Hm := Lib.hid hm
  have Hk0 := Lib.hid hk0
  have HW := Lib.hid hW
  have Hbp := Lib.hid hbp
  clear hE ih hok hinv hgl hi0 hm hM0 hk0 hM hW hbp
  refine callsIn_of_wp_marks Try.func55 rfl trivial ?_ rfl
  simp only [Try.ntmps55, List.size_toArray, List.length_cons, List.length_nil, Nat.reduceAdd, Nat.reduceSub, Array.replicate_succ, Array.replicate_zero, List.push_toArray, List.append_toArray, List.nil_append, List.cons_append]
  gi_wp2_with fail
  rw [HW.out, Hbp.out]
  obtain ⟨asl, csl, hvs⟩ := hM1.intsSlice 4 rfl
  obtain ⟨m0, hm0⟩ : ∃ m0, s.stack.length = m0 := ⟨_, rfl⟩
  have hm24 : m0 ≤ 24 := by have := Hinv.out.room; simp only [CS.ts] at this; omega
  have Hvs := Lib.hid hvs
  have Hm0 := Lib.hid hm0
  clear hvs hm0
  have p0 : W.cell? ⟨bp, 0, none⟩ = some (.pointer (some ⟨E.Bs, 0, none⟩)) := by have := hM1.cell 7 rfl 0; simpa using this
  have p1 : W.cell? ⟨bp + 1, 0, none⟩ = some (.int .i64 (i : Int)) := by have := hM1.cell 6 rfl 0; simpa using this
  have p2 : W.cell? ⟨E.Bs, 4, none⟩ = some (.slice asl m0 csl) := by have := hM1.cell 0 rfl 4; rw [Hvs.out, Hm0.out] at this; simpa using this
  refine wpIn_wide.2 ?_
  go_cut [2] from 9 to 18 (fun s2 W1 => s2 = .pointer (some ⟨bp, 0, none⟩) ∧ ∃ vst, Mem E.w0.heap.size E.w0 W1 (E.own ⟨s.low, s.at_, s.comp, s.stack ++ [(i : Int)], vst, s.va, s.fs⟩ (ebox (bp + 1) #[.int .i64 (i : Int)] 3 :: ebox bp #[.pointer (some ⟨E.Bs, 0, none⟩)] 62 :: L')) ∧ KeepsOthers W W1)
  case first =>
    have hN0 := hM1
    rw [CompEnv.own, Hvs.out, Hm0.out] at hN0
    have hN := hN0.drew
    have HNa := Lib.hid hN0
    have HN := Lib.hid hN
    clear hN0
    clear hN
    have z0 : bp < W.heap.size := by have := (HN.out.box 7 rfl).2.1; simpa using this
    have z1 : bp + 1 < W.heap.size := by have := (HN.out.box 6 rfl).2.1; simpa using this
    have z2 : E.Bs < W.heap.size := by have := (HN.out.box 0 rfl).2.1; simpa using this
    have p2 : W.drew.cell? ⟨E.Bs, 4, none⟩ = some (.slice asl m0 csl) := by have := HN.out.cell 0 rfl 4; simpa using this
    have p0 : W.drew.cell? ⟨bp, 0, none⟩ = some (.pointer (some ⟨E.Bs, 0, none⟩)) := by have := HN.out.cell 7 rfl 0; simpa using this
    have p1 : W.drew.cell? ⟨bp + 1, 0, none⟩ = some (.int .i64 (i : Int)) := by have := HN.out.cell 6 rfl 0; simpa using this
    rw [ldSt_eq]
    go_region_held3 (fun X => X.cell? ⟨bp, 0, none⟩ = some (.pointer (some ⟨E.Bs, 0, none⟩)) ∧ X.cell? ⟨bp + 1, 0, none⟩ = some (.int .i64 (i : Int)))
      (first | exact ⟨p0, p1⟩ | exact ⟨(HNa.out.alloc_ (.cells #[.int .i64 (i : Int)] 3)).drew.cell 7 rfl 0, (HNa.out.alloc_ (.cells #[.int .i64 (i : Int)] 3)).drew.cell 6 rfl 0⟩ | exact ⟨u2, u3⟩ | exact ⟨u4, u5⟩ | fail)
      (first
        | (refine Mem.step_appI' elemInts rfl (.tmp 13) (.tmp 15) rfl (HN.out.alloc_ _) 4 rfl rfl _ 1 (i : Int) rfl (by simp) (by rw [Hm0.out]; omega) ?_
           intro ad n1 cp W1 hM2 hs1 hk1
           have u0 : W1.cell? ⟨E.Bs, 4, none⟩ = some (.slice asl m0 csl) := (by have := hM2.cell 0 rfl 4; simpa using this)
           have u1 : W1.frozen? ⟨E.Bs, 4, none⟩ = false := hM2.free 0 rfl 4
           have u2 : W1.cell? ⟨bp, 0, none⟩ = some (.pointer (some ⟨E.Bs, 0, none⟩)) := (by have := hM2.cell 7 rfl 0; simpa using this)
           have u3 : W1.cell? ⟨bp + 1, 0, none⟩ = some (.int .i64 (i : Int)) := (by have := hM2.cell 6 rfl 0; simpa using this)
           have HM5 := Lib.hid (hM2.setBox 0 rfl 4 (.slice ad n1 cp))
           have u4 : (W1.setCell ⟨E.Bs, 4, none⟩ (.slice ad n1 cp)).cell? ⟨bp, 0, none⟩ = some (.pointer (some ⟨E.Bs, 0, none⟩)) := (by have := HM5.out.cell 7 rfl 0; simpa using this)
           have u5 : (W1.setCell ⟨E.Bs, 4, none⟩ (.slice ad n1 cp)).cell? ⟨bp + 1, 0, none⟩ = some (.int .i64 (i : Int)) := (by have := HM5.out.cell 6 rfl 0; simpa using this)
           have hk2 : KeepsOthers W (W1.setCell ⟨E.Bs, 4, none⟩ (.slice ad n1 cp)) := (((KeepsOthers.drew _).trans (KeepsOthers.alloc _ _)).trans ⟨hs1, (HN.out.alloc_ _).keeps 4 rfl hs1 hk1⟩).trans (KeepsOthers.setCell W1 _ _)
           clear hM2 hs1 hk1)
        | fail)
    all_goals
      go_wp2_with fail
      go_meet
      exact ⟨rfl, .slice ad n1 cp, HM5.out.cast (by simp), hk2⟩
  case rest =>
    obtain ⟨rfl, vst, hM3, hk2⟩ := hcut
    replace hk2 := Hk0.out.trans hk2
    clear hM1 p0 p1 p2 Hk0 HW Hbp Hvs Hm0 hm24
    obtain ⟨W2, hW2⟩ : ∃ W2, wc = W2 := ⟨_, rfl⟩
    subst hW2
    have hav : ∀ x ∈ s.at_, 0 ≤ x ∧ x ≤ 24 := by
      intro x hx
      obtain ⟨k, hk⟩ := List.mem_iff_getElem?.1 hx
      have h1 := Hinv.out.bound (k : Int)
      have h2 := Hinv.out.pos (k : Int)
      simp only [CS.ts] at h1 h2
      rw [rd_some hk] at h1 h2
      exact ⟨h2, by omega⟩
    have iA := isInts_of_own (hM3.ownI 2 rfl) (by have := Hok.out.at_; simp only; omega) (fun x hx => by have := hav x hx; exact ⟨by omega, by omega⟩)
    have p0 : wc.cell? ⟨bp, 0, none⟩ = some (.pointer (some ⟨E.Bs, 0, none⟩)) := by have := hM3.cell 7 rfl 0; simpa using this
    have p1 : wc.cell? ⟨bp + 1, 0, none⟩ = some (.int .i64 (i : Int)) := by have := hM3.cell 6 rfl 0; simpa using this
    have p2 : wc.cell? ⟨E.Bs, 3, none⟩ = some E.vA := by have := hM3.cell 0 rfl 3; simpa using this
    obtain ⟨p3, p4⟩ := hM3.intAt 2 rfl Hi0.out
    have hi1 : (0 : Int) ≤ (i : Int) := by omega
    have hi2 : (i : Int) < (E.g.objs.length : Int) := by omega
    have hmax := max_any wc.drew E.vA s.at_ (iA.later (Below.refl _ _).drew) (by have := Hok.out.at_; omega)
    have Hmax := Lib.hid hmax
    have HM3 := Lib.hid hM3
    have Hav := Lib.hid hav
    have Hk2 := Lib.hid hk2
    clear hM3 iA hav hmax hk2
    gi_wp2_with fail
    refine wpIn_wide.2 ?_
    have HMs : Hid (∀ t : Int, Mem E.w0.heap.size E.w0 (wc.setCell ⟨E.gA, i, none⟩ (.int .i64 t)).drew (E.own ⟨s.low, s.at_.set i t, s.comp, s.stack ++ [(i : Int)], vst, s.va, s.fs⟩ (ebox (bp + 1) #[.int .i64 (i : Int)] 3 :: ebox bp #[.pointer (some ⟨E.Bs, 0, none⟩)] 62 :: L'))) :=
      Lib.hid (fun t => ((HM3.out.setI 2 rfl Hok.out.at_ i t).drew).cast (by simp))
    go_cut [28] from 19 to 30 (fun s28 W3 => ∃ t, Hid ((∀ x ∈ s.at_, x < t) ∧ ∃ mx ∈ s.at_, 1 + mx = t) ∧ Mem E.w0.heap.size E.w0 W3 (E.own ⟨s.low, s.at_.set i t, s.comp, s.stack ++ [(i : Int)], vst, s.va, s.fs⟩ (ebox (bp + 1) #[.int .i64 (i : Int)] 3 :: ebox bp #[.pointer (some ⟨E.Bs, 0, none⟩)] 62 :: L')) ∧ KeepsOthers wc W3)
    case first =>
      go_region_held3 (fun X => X.cell? ⟨bp, 0, none⟩ = some (.pointer (some ⟨E.Bs, 0, none⟩)) ∧ X.cell? ⟨bp + 1, 0, none⟩ = some (.int .i64 (i : Int)) ∧ X.cell? ⟨E.Bs, 3, none⟩ = some E.vA)
        (first | exact ⟨by simpa using p0, by simpa using p1, by simpa using p2⟩ | exact ⟨(HMs.out _).cell 7 rfl 0, (HMs.out _).cell 6 rfl 0, (HMs.out _).cell 0 rfl 3⟩ | fail)
        (first
          | (go_at_call 77
             refine Hmax.out.mono ?_
             rintro e W3 ⟨mx, rfl, hmem, hle, rfl⟩)
          | fail)
      all_goals
        go_wp2_with fail
        go_meet
        have hmx := Hav.out mx hmem
        have hwr : IntKind.i64.wrap (1 + mx) = 1 + mx := by rw [IntKind.wrap_i64]; omega
        rw [hwr]
        exact ⟨1 + mx, Lib.hid ⟨fun x hx => by have := hle x hx; omega, mx, hmem, rfl⟩, HMs.out _, (KeepsOthers.setCell wc _ _).trans (KeepsOthers.drew _)⟩
    case rest =>
      obtain ⟨t, Ht, hM4, hk4⟩ := hcut
      have Hk4 := Lib.hid (Hk2.out.trans hk4)
      clear HM3 HMs Hmax p0 p1 p2 p3 p4 hk4 Hk2
      have hmx : t ≤ 25 ∧ 1 ≤ t := by
        obtain ⟨_, mx, h1, h2⟩ := Ht.out
        have := Hav.out mx h1; omega
      have hlo : s.low.length = E.g.objs.length := Hok.out.low
      have hao : (s.at_.set i t).length = E.g.objs.length := by rw [List.length_set]; exact Hok.out.at_
      obtain ⟨y0, hy0⟩ := get_some s.low i (by omega)
      have hti : (s.at_.set i t)[i]? = some t := List.getElem?_set_self (by rw [Hok.out.at_]; exact hil)
      have p0 : wc.cell? ⟨bp, 0, none⟩ = some (.pointer (some ⟨E.Bs, 0, none⟩)) := by have := hM4.cell 7 rfl 0; simpa using this
      have p1 : wc.cell? ⟨bp + 1, 0, none⟩ = some (.int .i64 (i : Int)) := by have := hM4.cell 6 rfl 0; simpa using this
      have p2 : wc.cell? ⟨E.Bs, 3, none⟩ = some E.vA := by have := hM4.cell 0 rfl 3; simpa using this
      have p3 : wc.cell? ⟨E.Bs, 2, none⟩ = some E.vL := by have := hM4.cell 0 rfl 2; simpa using this
      obtain ⟨p4, _⟩ := hM4.intAt 2 rfl hti
      obtain ⟨p5, p6⟩ := hM4.intAt 1 rfl hy0
      have hM5 : Mem E.w0.heap.size E.w0 (wc.drew.setCell ⟨E.gL, i, none⟩ (.int .i64 t)) (E.own ⟨s.low.set i t, s.at_.set i t, s.comp, s.stack ++ [(i : Int)], vst, s.va, s.fs⟩ (ebox (bp + 1) #[.int .i64 (i : Int)] 3 :: ebox bp #[.pointer (some ⟨E.Bs, 0, none⟩)] 62 :: L')) :=
        (hM4.drew.setI 1 rfl hlo i t).cast (by simp)
      obtain ⟨W3, hW3⟩ : ∃ W3, wc.drew.setCell ⟨E.gL, i, none⟩ (.int .i64 t) = W3 := ⟨_, rfl⟩
      have hW3b : (wc.setCell ⟨E.gL, i, none⟩ (.int .i64 t)).drew = W3 := hW3
      have hk5 : KeepsOthers w W3 := by rw [← hW3]; exact (Hk4.out.trans (KeepsOthers.drew _)).trans (KeepsOthers.setCell _ _ _)
      rw [hW3] at hM5
      have HM5 := Lib.hid hM5
      have HW3 := Lib.hid hW3
      have HW3b := Lib.hid hW3b
      have Hk5 := Lib.hid hk5
      clear hM4 hM5 hW3 hW3b hk5 Hk4 hti hy0 hlo hao
      gi_wp2_with fail
      refine wpIn_wide.2 ?_
      go_still_tail 13, (by kernel_rfl)
      go_wp2_with fail
      have p0 : W3.cell? ⟨bp, 0, none⟩ = some (.pointer (some ⟨E.Bs, 0, none⟩)) := by have := HM5.out.cell 7 rfl 0; simpa using this
      have p1 : W3.cell? ⟨bp + 1, 0, none⟩ = some (.int .i64 (i : Int)) := by have := HM5.out.cell 6 rfl 0; simpa using this
      have p2 : W3.cell? ⟨E.Bs, 0, none⟩ = some E.vo := by have := HM5.out.cell 0 rfl 0; simpa using this
      obtain ⟨ob, hob⟩ := get_some _ _ hil
      obtain ⟨b, off, cap2, uo, hv, hb, hb2, d1, huo⟩ := HE.out.objs.at HM5.out.below hob
      obtain ⟨au, cu, rfl, hlu⟩ := huo.slice
      rw [hv] at p2
      have Huo := Lib.hid huo
      have hE2 := Lib.hid (show ob.length ≤ 4 from HE.out.good.fields ob (List.mem_of_getElem? hob))
      have Hob : Hid (fieldsAt E.g (i : Int) = ob) := Lib.hid (by unfold fieldsAt; rw [Int.toNat_natCast, List.getD_eq_getElem?_getD, hob]; rfl)
      have hobl := hE2.out
      have hEG : ∀ j : Int, EG E.g (i : Int) j ↔ j ∈ targets ob := fun j => by unfold EG; rw [Hob.out]; exact ⟨fun h => h.2, fun h => ⟨by omega, h⟩⟩
      have HEG := Lib.hid hEG
      have hpush : Amid (EG E.g) E.g.objs.length s.ts (CS.ts ⟨s.low.set i t, s.at_.set i t, s.comp, s.stack ++ [(i : Int)], vst, s.va, s.fs⟩) gray (i : Int) [] := by
        rw [ts_push s i t vst (by rw [Hok.out.at_]; exact hil) (by rw [Hok.out.low]; exact hil)]
        refine Amid.start Hinv.out (by omega) (by omega) (by show rd s.at_ 0 (i : Int) = 0; exact rd_some Hi0.out) Hgl.out ?_ ?_
        · intro x
          by_cases h0 : s.ts.at_ x = 0
          · omega
          · exact Ht.out.1 _ (rd_mem (rd_out h0))
        · obtain ⟨_, mx, h1, h2⟩ := Ht.out
          obtain ⟨k, hk⟩ := List.mem_iff_getElem?.1 h1
          have h3 := Hinv.out.bound (k : Int)
          have h4 : s.ts.at_ (k : Int) = mx := (by show rd s.at_ 0 (k : Int) = mx; exact rd_some hk)
          omega
      have hok1 : (CS.mk (s.low.set i t) (s.at_.set i t) s.comp (s.stack ++ [(i : Int)]) vst s.va s.fs).Ok E.g.objs.length := ⟨by rw [List.length_set]; exact Hok.out.low, by rw [List.length_set]; exact Hok.out.at_, Hok.out.comp⟩
      have Hpush := Lib.hid hpush
      have Hok1 := Lib.hid hok1
      clear hob huo hEG hpush hok1
      gi_wp2_with fail
      rw [HW3b.out]
      refine wpIn_wide.2 ?_
      go_still_tail 9, (by kernel_rfl)
      go_wp2_with fail
      refine (callsIn_wide.1 (targets_opaque 10 _ _ _ _)).mono ?_
      rintro e w4 ⟨Bt, rfl, hb4, hBt, hct⟩
      have hM6 := HM5.out.drew.call hb4
      have hko4 := (Hk5.out.trans (KeepsOthers.drew _)).trans (show KeepsOthers W3.drew w4 from ⟨hb4.size, fun k _ hk _ => (hb4.block k (Array.getElem?_eq_some_iff.1 hk).1).trans hk⟩)
      have Hko4 := Lib.hid hko4
      obtain ⟨T, hT⟩ : ∃ T, (ebox (bp + 1) #[.int .i64 (i : Int)] 3 :: ebox bp #[.pointer (some ⟨E.Bs, 0, none⟩)] 62 :: L') = T := ⟨_, rfl⟩
      rw [hT] at hM6
      have hcalm : ∀ x ∈ T, x.Calm w4.heap.size := by
        have := calm_of hM6 (L' := T) (fun x hx => List.mem_cons_of_mem _ (List.mem_cons_of_mem _ (List.mem_cons_of_mem _ (List.mem_cons_of_mem _ (List.mem_cons_of_mem _ (List.mem_cons_of_mem _ (List.mem_append_left _ hx)))))))
        exact this
      have HT := Lib.hid hT
      clear hb4 hko4 HM5 hT p0 p1 p2 hv
      go_wp2_with fail
      gi_wp2_with fail
      refine range_slot (by omega) (gf := 56) (lb := #[.pointer (some ⟨Bt, 0, none⟩)]) rfl (enters_of Try.func56 (by kernel_rfl) rfl)
        (targets_stops _ (by omega) Bt ob _ E.w0 Huo.out w4 hM6.below hBt hct) hM6.base
        (fun pre W => ∃ s1 : CS, (Amid (EG E.g) E.g.objs.length s.ts s1.ts gray (i : Int) (pre.map (·.1)) ∧ s1.Ok E.g.objs.length) ∧ KeepsOthers w W ∧ Mem E.w0.heap.size E.w0 W (E.own s1 T))
        (fun _ _ _ => False) ?own (fun _ => ownFrom_false _) ⟨_, ⟨Hpush.out, Hok1.out⟩, Hko4.out, hM6⟩ 4 (fun x => .int .i64 x.1) ?assign ?body ?done ?stop
      case own =>
        refine ownFrom_ex fun s1 => ownFrom_and (p := fun pre : List (Tg ob) => Amid (EG E.g) E.g.objs.length s.ts s1.ts gray (i : Int) (pre.map (·.1)) ∧ s1.Ok E.g.objs.length) ?_
        intro sx W W' row hs hg hr
        refine ⟨ownFrom_keeps (β := Unit) (B := w4.heap.size) Hko4.out.size () W W' row hs.1 hg hr, ?_⟩
        exact ownFrom_mem (β := Unit) (fun _ => E.own s1 T) hM6.base (fun _ => own_calm E s1 T _ hcalm) () W W' row hs.2 hg hr
      case assign =>
        intro l x W Kk hK
        simp only [laid]
        gi_wp2
        exact hK
      case stop => rintro D c pre W hD hpre hf hK; exact hf.elim
      case done =>
        rintro D1 xs W hD1 hxs ⟨s1, ⟨hA, hk1⟩, hko, hM⟩ hK1
        rw [hxs] at hA
        have hbig : w.heap.size ≤ D1 := Nat.le_trans Hko4.out.size hD1
        have hcalm2 : ∀ x ∈ T, x.Calm D1 := fun x hx => fun W' B0 hok b hb => by
          rcases hcalm x hx W' B0 hok b hb with h1 | h1
          · exact .inl (Nat.lt_of_lt_of_le h1 hD1)
          · exact .inr h1
        have hM7 := hM.addDef' (D := D1) (Nat.le_trans hM6.base hD1) hK1 (own_calm E s1 T D1 hcalm2)
        rw [← HT.out] at hM7
        replace hM7 : Mem E.w0.heap.size E.w0 W (E.own s1 (ebox (bp + 1) #[.int .i64 (i : Int)] 3 :: ebox bp #[.pointer (some ⟨E.Bs, 0, none⟩)] 62 :: edef D1 :: L')) :=
          Mem.tailDef (A := [_, _, _, _, _, _, _, _]) hM7
        obtain ⟨ai, hai⟩ := get_some s1.at_ i (by rw [hk1.at_]; exact hil)
        obtain ⟨li, hli⟩ := get_some s1.low i (by rw [hk1.low]; exact hil)
        have p0 : W.cell? ⟨bp, 0, none⟩ = some (.pointer (some ⟨E.Bs, 0, none⟩)) := by have := hM7.cell 7 rfl 0; simpa using this
        have p1 : W.cell? ⟨bp + 1, 0, none⟩ = some (.int .i64 (i : Int)) := by have := hM7.cell 6 rfl 0; simpa using this
        have p2 : W.cell? ⟨E.Bs, 3, none⟩ = some E.vA := by have := hM7.cell 0 rfl 3; simpa using this
        have p3 : W.cell? ⟨E.Bs, 2, none⟩ = some E.vL := by have := hM7.cell 0 rfl 2; simpa using this
        obtain ⟨p4, _⟩ := hM7.intAt 2 rfl hai
        obtain ⟨p5, _⟩ := hM7.intAt 1 rfl hli
        have e1 : s1.ts.low (i : Int) = li := by show rd s1.low 0 (i : Int) = li; exact rd_some hli
        have e2 : s1.ts.at_ (i : Int) = ai := by show rd s1.at_ 0 (i : Int) = ai; exact rd_some hai
        have hall : ∀ j, EG E.g (i : Int) j → j ∈ targets ob := fun j hj => (HEG.out j).1 hj
        have HA := Lib.hid hA
        have Hk1 := Lib.hid hk1
        have Hko := Lib.hid hko
        have HM7 := Lib.hid hM7
        have Hbig := Lib.hid hbig
        have Hall := Lib.hid hall
        have E1 := Lib.hid e1
        have E2 := Lib.hid e2
        clear hA hk1 hko hM7 hM hbig hall e1 e2 hK1 hxs hai hli hcalm2 hM6 hcalm
        gi_wp2_with fail
        refine wpIn_wide.2 ?_
        by_cases hne : li = ai
        · subst hne
          go_quiet (fail)
          go_wp2_with fail
          obtain ⟨new, hnew, hnz⟩ := HA.out.ex
          have hns : (i : Int) ∉ s.stack := fun hm => ((Hinv.out.mem _).1 hm).1 (by show rd s.at_ 0 (i : Int) = 0; exact rd_some Hi0.out)
          have hst : s1.stack = s.stack ++ (i : Int) :: new := hnew
          have hroom : s1.stack.length ≤ 24 := by have := HA.out.inv.room; simp only [CS.ts] at this; omega
          have hin : ∀ x ∈ s1.stack, 0 ≤ x ∧ x < E.g.objs.length := fun x hx => HA.out.inv.rng x ((HA.out.inv.mem x).1 hx).1
          have HMq := Lib.hid (HM7.out.drewN nq)
          have hkq : KeepsOthers W (W.drewN nq) := ⟨Nat.le_refl _, fun k _ hk _ => hk⟩
          have Hkq := Lib.hid (Hko.out.trans hkq)
          obtain ⟨Wq, hWq⟩ : ∃ Wq, W.drewN nq = Wq := ⟨_, rfl⟩
          rw [hWq] at HMq Hkq ⊢
          clear p0 p1 p2 p3 p4 p5 hWq hkq HM7 Hko
          obtain ⟨gS, cS, hvS, h9⟩ := HMq.out.intsAt 4 rfl (by rw [hst]; intro e; simp at e)
          have p0 : Wq.cell? ⟨bp, 0, none⟩ = some (.pointer (some ⟨E.Bs, 0, none⟩)) := by have := HMq.out.cell 7 rfl 0; simpa using this
          have p1 : Wq.cell? ⟨bp + 1, 0, none⟩ = some (.int .i64 (i : Int)) := by have := HMq.out.cell 6 rfl 0; simpa using this
          have p2 : Wq.cell? ⟨E.Bs, 4, none⟩ = some s1.vst := by have := HMq.out.cell 0 rfl 4; simpa using this
          obtain ⟨nS, hnS⟩ : ∃ nS, s1.stack.length = nS := ⟨_, rfl⟩
          obtain ⟨kS, hkS⟩ : ∃ kS, s.stack.length = kS := ⟨_, rfl⟩
          have hkn : kS < nS := by rw [← hnS, ← hkS, hst]; simp
          have hn24 : nS ≤ 24 := by rw [← hnS]; exact hroom
          have hcap : nS ≤ cS ∧ cS ≤ 9223372036854775807 := by
            have hr := HMq.out.ownI 4 rfl
            rcases hr.2 with ⟨h1, _⟩ | ⟨g, cap, cur, h1, _, _, h2, h3, _⟩
            · rw [hvS] at h1; cases h1
            · rw [hvS] at h1; cases h1; rw [hnS] at h2; simp only [maxLen] at h3; exact ⟨h2, h3⟩
          rw [hnS] at hvS
          rw [hvS] at p2
          have iS := isInts_of_own (HMq.out.drew.ownI 4 rfl) (by omega) (fun x hx => by have := hin x hx; exact ⟨by omega, by omega⟩)
          rw [hvS] at iS
          have hcS : ∀ j x, (s1.stack.drop kS)[j]? = some x → Wq.drew.cell? ⟨gS, kS + j, none⟩ = some (.int .i64 x) := by
            intro j x hx
            rw [List.getElem?_drop] at hx
            exact h9.2.2.1 (kS + j) x hx
          simp only [hst] at iS
          have HIdx := Lib.hid (index_any Wq.drew _ s.stack new (i : Int) iS hns)
          have HcS := Lib.hid hcS
          have Hst := Lib.hid hst
          have HnS := Lib.hid hnS
          have HkS := Lib.hid hkS
          have HvS := Lib.hid hvS
          have Hin := Lib.hid hin
          have Hnz := Lib.hid hnz
          have zS := h9.2.1
          clear hnew hst hnS hkS hvS hin hnz h9 iS hcS hroom hns
          gi_wp2_with fail
          refine wpIn_wide.2 ?_
          go_still_tail 5, (by kernel_rfl)
          go_wp2_with fail
          refine HIdx.out.mono ?_
          rintro e w5 ⟨rfl, rfl⟩
          rw [HkS.out]
          have hk1' : (0 : Int) ≤ (kS : Int) := by omega
          have hk2' : (kS : Int) ≤ (nS : Int) := by omega
          have hk3' : (nS : Int) ≤ (cS : Int) := by omega
          have hk4' : kS ≤ nS := by omega
          have hk5' : nS ≤ cS := by omega
          have hk6' : ¬ cS = kS := by omega
          have hk7' : kS ≤ cS := by omega
          have hk8' : (kS : Int) ≤ (cS : Int) := by omega
          go_wp2_with fail
          gi_wp2_with fail
          refine ⟨trivial, (callsIn_wide.2 (clone_any Wq.drew gS kS (nS - kS) (cS - kS) (s1.stack.drop kS) (by rw [List.length_drop, HnS.out]) (by omega) HcS.out)).mono ?_⟩
          rintro e w6 ⟨vc, rfl, hMc⟩
          have hM8 := HMq.out.drew.callMem hMc
          have hk6 := (Hkq.out.trans (KeepsOthers.drew _)).trans (show KeepsOthers Wq.drew w6 from ⟨hMc.below.size, fun k _ hk _ => (hMc.below.block k (Array.getElem?_eq_some_iff.1 hk).1).trans hk⟩)
          have p0 : w6.cell? ⟨bp, 0, none⟩ = some (.pointer (some ⟨E.Bs, 0, none⟩)) := by have := hM8.cell 8 rfl 0; simpa using this
          have p1 : w6.cell? ⟨bp + 1, 0, none⟩ = some (.int .i64 (i : Int)) := by have := hM8.cell 7 rfl 0; simpa using this
          have p2 : w6.cell? ⟨E.Bs, 4, none⟩ = some (.slice (some ⟨gS, 0, none⟩) nS cS) := by have := hM8.cell 1 rfl 4; rw [HvS.out] at this; simpa using this
          have p2b : w6.frozen? ⟨E.Bs, 4, none⟩ = false := hM8.free 1 rfl 4
          have hM9 : Mem E.w0.heap.size E.w0 (w6.setCell ⟨E.Bs, 4, none⟩ (.slice (some ⟨gS, 0, none⟩) kS cS)).drew (rowI 3 vc (s1.stack.drop kS) :: E.own ⟨s1.low, s1.at_, s1.comp, s.stack, .slice (some ⟨gS, 0, none⟩) kS cS, s1.va, s1.fs⟩ (ebox (bp + 1) #[.int .i64 (i : Int)] 3 :: ebox bp #[.pointer (some ⟨E.Bs, 0, none⟩)] 62 :: edef D1 :: L')) := by
            have h := hM8
            simp only [CompEnv.own, List.cons_append, List.nil_append] at h
            rw [HvS.out] at h
            have h2 := (h.shrinkI' 5 rfl (l' := s.stack) (by rw [Hst.out]; simp) ⟨_, Hst.out.symm⟩ HnS.out).setBox 1 rfl 4 (.slice (some ⟨gS, 0, none⟩) kS cS)
            rw [HkS.out] at h2
            exact h2.drew.cast (by simp)
          obtain ⟨ac, nc, cc, rfl⟩ := own_slice (hM9.ownI 0 rfl)
          have HM9 := Lib.hid hM9
          have Hk6 := Lib.hid hk6
          clear hM9 hk6 hM8 hMc HcS HIdx HMq Hkq
          gi_wp2_with fail
          refine wpIn_wide.2 ?_
          go_still_tail 9, (by kernel_rfl)
          go_wp2_with fail
          gi_wp2_with fail
          obtain ⟨W7, hW7⟩ : ∃ W7, (w6.setCell ⟨E.Bs, 4, none⟩ (.slice (some ⟨gS, 0, none⟩) kS cS)).drew = W7 := ⟨_, rfl⟩
          have HM7 := HM9.out
          have hk7 := (Hk6.out.trans (KeepsOthers.setCell w6 ⟨E.Bs, 4, none⟩ (.slice (some ⟨gS, 0, none⟩) kS cS))).trans (KeepsOthers.drew _)
          rw [hW7] at HM7 hk7 ⊢
          have Hk7 := Lib.hid hk7
          clear HM9 Hk6 p0 p1 p2 p2b hW7 hk7
          refine ⟨trivial, (callsIn_wide.2 (sort_keeps _ _ W7 _ HM7 0 3 _ _ rfl (by rw [List.length_drop, HnS.out]; omega))).mono ?_⟩
          rintro e w8 ⟨rfl, hM8, hko8⟩
          obtain ⟨c, hce⟩ : ∃ c, sorted (s1.stack.drop kS) = c := ⟨_, rfl⟩
          simp only [List.set_cons_zero, hce] at hM8
          have hcm : ∀ x, x ∈ c ↔ x ∈ s1.stack.drop s.stack.length := fun x => by rw [← hce, mem_sorted, HkS.out]
          have hcr : c.Pairwise (· < ·) := by
            have h1 : (s1.stack.drop kS).Nodup := (List.Sublist.nodup (List.drop_sublist _ _) (HA.out.inv.sorted.imp (fun h e => by rw [e] at h; omega)))
            have h2 : c.Nodup := by rw [← hce]; exact (List.mergeSort_perm _ _).nodup_iff.2 h1
            have h3 : c.Pairwise (fun x y => x ≤ y) := by
              rw [← hce]
              have := List.pairwise_mergeSort (le := fun x y : Int => decide (x ≤ y)) (by intro a b c h1 h2; simp at *; omega) (by intro a b; simp; omega) (s1.stack.drop kS)
              exact this.imp (fun h => by simpa using h)
            exact (List.Pairwise.and h3 h2).imp (fun h => by obtain ⟨h1, h2⟩ := h; omega)
          have hcin : ∀ x ∈ c, 0 ≤ x ∧ x < E.g.objs.length := fun x hx => Hin.out x (List.mem_of_mem_drop ((hcm x).1 hx))
          have hcl : c.length ≤ 24 := by rw [← hce, length_sorted, List.length_drop, HnS.out]; omega
          obtain ⟨aA, cA, hva⟩ := hM8.rowRSlice 6 rfl
          rw [List.length_map] at hva
          obtain ⟨nA, hnA⟩ : ∃ nA, s1.fs.length = nA := ⟨_, rfl⟩
          rw [hnA] at hva
          have hnA24 : nA ≤ 24 := by have := HA.out.inv.room; simp only [CS.ts, List.length_map] at this; omega
          have hn9 : c.length = nc := by
            rcases (hM8.ownI 0 rfl).2 with ⟨h1, h2⟩ | ⟨g, cap, cur, h1, _⟩
            · cases h1; exact h2
            · cases h1; rfl
          have hnc24 : nc ≤ 24 := by rw [← hn9]; exact hcl
          have Hk8 := Lib.hid (Hk7.out.trans hko8)
          have HM8 := Lib.hid hM8
          have Hcm := Lib.hid hcm
          have Hcr := Lib.hid hcr
          have Hcin := Lib.hid hcin
          have Hva := Lib.hid hva
          have HnA := Lib.hid hnA
          have Hn9 := Lib.hid hn9
          clear hM8 hko8 Hk7 HM7 hcm hcr hcin hva hnA hn9 hce
          gi_wp2_with fail
          refine wpIn_wide.2 ?_
          go_loopw [8, 159] (fun s8 s159 wr => ∃ k : Nat, k ≤ nc ∧ s159 = .int .i64 (k : Int) ∧ Mem E.w0.heap.size E.w0 wr (rowI 3 (.slice ac nc cc) c :: E.own ⟨s1.low, s1.at_, Tarj.setAll s1.comp (c.take k) (nA : Int), s.stack, .slice (some ⟨gS, 0, none⟩) kS cS, .slice aA nA cA, s1.fs⟩ (ebox (bp + 1) #[.int .i64 (i : Int)] 3 :: ebox bp #[.pointer (some ⟨E.Bs, 0, none⟩)] 62 :: edef D1 :: L')) ∧ KeepsOthers w wr) (fun _ i _ => nc - (intOf i).toNat)
          case atStart => 
            refine ⟨0, Nat.zero_le _, rfl, ?_, Hk8.out⟩
            have h := HM8.out
            rw [Hva.out] at h
            exact h
          case round =>
            obtain ⟨k, hk, rfl, hM, hko⟩ := hrel
            by_cases hlt : k < nc
            · obtain ⟨y, hy⟩ := get_some c k (by rw [Hn9.out]; exact hlt)
              have hyin := Hcin.out y (List.mem_of_getElem? hy)
              obtain ⟨j, rfl⟩ : ∃ j : Nat, y = (j : Int) := ⟨y.toNat, by omega⟩
              have hj : j < E.g.objs.length := by omega
              have iC := isInts_of_own (hM.ownI 0 rfl) (by rw [Hn9.out]; omega) (fun x hx => by have := Hcin.out x hx; exact ⟨by omega, by omega⟩)
              obtain ⟨b9, off9, cap9, hv9, hb9, hb10, c9, _⟩ := iC.at (Below.refl _ _) hy
              rw [Hn9.out] at hv9
              cases hv9
              have hcl2 : (Tarj.setAll s1.comp (c.take k) (nA : Int)).length = E.g.objs.length := by rw [setAll_len]; exact Hk1.out.comp
              obtain ⟨cj, hcj⟩ := get_some (Tarj.setAll s1.comp (c.take k) (nA : Int)) j (by rw [hcl2]; exact hj)
              have q0 : wr.cell? ⟨bp, 0, none⟩ = some (.pointer (some ⟨E.Bs, 0, none⟩)) := by have := hM.cell 8 rfl 0; simpa using this
              have q1 : wr.cell? ⟨E.Bs, 5, none⟩ = some E.vC := by have := hM.cell 1 rfl 5; simpa using this
              have q2 : wr.cell? ⟨E.Bs, 6, none⟩ = some (.slice aA nA cA) := by have := hM.cell 1 rfl 6; simpa using this
              obtain ⟨q3, q4⟩ := hM.intAt 4 rfl hcj
              have hM2 := hM.setI 4 rfl hcl2 j (nA : Int)
              rw [show (Tarj.setAll s1.comp (c.take k) (nA : Int)).set j (nA : Int) = Tarj.setAll s1.comp (c.take (k + 1)) (nA : Int) by rw [take_succ_some _ _ _ hy, setAll_snoc, Int.toNat_natCast]] at hM2
              have HMd := Lib.hid hM2.drew
              have Hkd := Lib.hid ((hko.trans (KeepsOthers.setCell wr ⟨E.gC, j, none⟩ (.int .i64 (nA : Int)))).trans (KeepsOthers.drew _))
              have hj1 : (0 : Int) ≤ (j : Int) := by omega
              have hj2 : (j : Int) < (E.g.objs.length : Int) := by omega
              have hkc : (k : Int) < (nc : Int) := by omega
              have hkc0 : (0 : Int) ≤ (k : Int) := by omega
              clear hM hM2 hko hy hyin iC hcl2 hcj HM8
              go_wp2_with fail
              go_still_tail 11, (by kernel_rfl)
              go_wp2_with fail
              go_roundw
              case rel => exact ⟨k + 1, by omega, by go_num, HMd.out, Hkd.out⟩
              case measure => simp [intOf]; omega
            · obtain rfl : k = nc := by omega
              rw [show c.take k = c by rw [← Hn9.out, List.take_length]] at hM
              clear HM8
              go_wp2_with fail
              gi_wp2_with fail
              have HNa := Lib.hid hM
              have HN := Lib.hid hM.drew
              have Hkw := Lib.hid hko
              clear hM hko
              have z0 : bp < wr.heap.size := by have := (HNa.out.box 8 rfl).2.1; simpa using this
              have z2 : E.Bs < wr.heap.size := by have := (HNa.out.box 1 rfl).2.1; simpa using this
              have z3 : E.Bs < wr.drew.heap.size := z2
              have p0 : wr.drew.cell? ⟨bp, 0, none⟩ = some (.pointer (some ⟨E.Bs, 0, none⟩)) := by have := HN.out.cell 8 rfl 0; simpa using this
              have p1 : wr.drew.cell? ⟨E.Bs, 6, none⟩ = some (.slice aA nA cA) := by have := HN.out.cell 1 rfl 6; simpa using this
              have p2 : wr.cell? ⟨E.Bs, 6, none⟩ = some (.slice aA nA cA) := by have := HN.out.cell 1 rfl 6; simpa using this
              refine wpIn_wide.2 ?_
              rw [ldAll_eq]
              go_region_held3 (fun X => X.cell? ⟨bp, 0, none⟩ = some (.pointer (some ⟨E.Bs, 0, none⟩)))
                (first | exact p0 | exact (HNa.out.alloc_ (.cells #[.slice ac k cc] 27)).drew.cell 8 rfl 0 | exact u2 | exact u4 | fail)
                (first
                  | (refine Mem.step_appR' elemRows rfl (.tmp 179) (.tmp 181) rfl (HN.out.alloc_ _) 6 rfl rfl _ 1 (.slice ac k cc) rfl (by simp) rfl (by decide) (by rw [List.length_map, HnA.out]; omega) ?_
                     intro ad cp W1 hM2 hs1 hk1
                     have u0 : W1.cell? ⟨E.Bs, 6, none⟩ = some (.slice aA nA cA) := (by have := hM2.cell 1 rfl 6; simpa using this)
                     have u1 : W1.frozen? ⟨E.Bs, 6, none⟩ = false := hM2.free 1 rfl 6
                     have u2 : W1.cell? ⟨bp, 0, none⟩ = some (.pointer (some ⟨E.Bs, 0, none⟩)) := (by have := hM2.cell 8 rfl 0; simpa using this)
                     have HM5 := Lib.hid (hM2.setBox 1 rfl 6 (.slice ad (s1.fs.length + 1) cp))
                     have u4 : (W1.setCell ⟨E.Bs, 6, none⟩ (.slice ad (s1.fs.length + 1) cp)).cell? ⟨bp, 0, none⟩ = some (.pointer (some ⟨E.Bs, 0, none⟩)) := (by have := HM5.out.cell 8 rfl 0; simpa using this)
                     have hk2 : KeepsOthers w (W1.setCell ⟨E.Bs, 6, none⟩ (.slice ad (s1.fs.length + 1) cp)) := (((Hkw.out.trans (KeepsOthers.drew _)).trans (KeepsOthers.alloc _ _)).trans ⟨hs1, (HN.out.alloc_ _).keeps 6 rfl hs1 hk1⟩).trans (KeepsOthers.setCell W1 _ _)
                     clear hM2 hs1 hk1)
                  | fail)
              all_goals
                go_wp2_with fail
                gi_wp2_with fail
                have hM6 := (fin_perm (A := [_, _, _, _, _, _]) HM5.out).cast (L' := edef D1 :: E.own ⟨s1.low, s1.at_, Tarj.setAll s1.comp c (nA : Int), s.stack, .slice (some ⟨gS, 0, none⟩) kS cS, .slice ad (s1.fs.length + 1) cp, s1.fs ++ [(.slice ac k cc, c)]⟩ L') (by simp [rowsI, rowR])
                have hts : (CS.mk s1.low s1.at_ (Tarj.setAll s1.comp c (nA : Int)) s.stack (.slice (some ⟨gS, 0, none⟩) kS cS) (.slice ad (s1.fs.length + 1) cp) (s1.fs ++ [(.slice ac k cc, c)])).ts = popped s1.ts s.stack.length c := by
                  have h := ts_popped s1 s.stack.length c (.slice (some ⟨gS, 0, none⟩) kS cS) (.slice ad (s1.fs.length + 1) cp) (.slice ac k cc) (fun x hx => by rw [Hk1.out.comp]; exact Hcin.out x hx)
                  rw [show s1.stack.take s.stack.length = s.stack by rw [Hst.out]; simp, HnA.out] at h
                  exact h
                have hW := HA.out.pop (by rw [E1.out, E2.out]) Hall.out Hcm.out Hcr.out
                have hW2 : Walked (EG E.g) E.g.objs.length s.ts (CS.mk s1.low s1.at_ (Tarj.setAll s1.comp c (nA : Int)) s.stack (.slice (some ⟨gS, 0, none⟩) kS cS) (.slice ad (s1.fs.length + 1) cp) (s1.fs ++ [(.slice ac k cc, c)])).ts gray (i : Int) := by rw [hts]; exact hW
                have Hk2 := Lib.hid hk2
                have HW2 := Lib.hid hW2
                have hOk2 : (CS.mk s1.low s1.at_ (Tarj.setAll s1.comp c (nA : Int)) s.stack (.slice (some ⟨gS, 0, none⟩) kS cS) (.slice ad (s1.fs.length + 1) cp) (s1.fs ++ [(.slice ac k cc, c)])).Ok E.g.objs.length := ⟨Hk1.out.low, Hk1.out.at_, by simp only; rw [setAll_len]; exact Hk1.out.comp⟩
                refine leaves_marks2 (v := .tuple #[]) [D1] _ hM6 Hk2.out (by intro D hD; simp at hD; subst hD; exact Hbig.out) ?_
                intro W' hM8 hko8
                exact ⟨by simp [results, Try.results55, go_sem], _, rfl, HW2.out, hOk2, hM8, hko8⟩
        · have Hne := Lib.hid hne
          go_quiet (fail)
          go_wp2_with fail
          gi_wp2_with fail
          have hEnd := (own_end HM7.out).drewN nq
          have HS := Lib.hid (HA.out.stay (by rw [E1.out, E2.out]; exact Hne.out) Hall.out)
          have hkq : KeepsOthers W (W.drewN nq) := ⟨Nat.le_refl _, fun k _ hk _ => hk⟩
          have Hkq := Lib.hid (Hko.out.trans hkq)
          refine leaves_marks2 (v := .tuple #[]) [D1] _ hEnd Hkq.out (by intro D hD; simp at hD; subst hD; exact Hbig.out) ?_
          intro W' hM8 hko8
          exact ⟨by simp [results, Try.results55, go_sem], s1, rfl, HS.out, Hk1.out, hM8, hko8⟩
      case body =>
        rintro lb pre ⟨x, hx⟩ W hsz ⟨s1, ⟨hA, hk1⟩, hko, hM⟩ hlen
        have hxv := mem_of_target hx
        have hxin := ref_in' HE.out.good (fields_all E.g (i : Int) _ (by rw [Hob.out]; exact hxv))
        obtain ⟨j, rfl⟩ : ∃ j : Nat, x = (j : Int) := ⟨x.toNat, by omega⟩
        have hj : j < E.g.objs.length := by omega
        obtain ⟨pl, hpl⟩ : ∃ pl : List Int, pre.map (·.1) = pl := ⟨_, rfl⟩
        rw [hpl] at hA
        have hjE : EG E.g (i : Int) (j : Int) := (HEG.out _).2 hx
        obtain ⟨aj, haj⟩ := get_some s1.at_ j (by rw [hk1.at_]; exact hj)
        obtain ⟨cj, hcj⟩ := get_some s1.comp j (by rw [hk1.comp]; exact hj)
        obtain ⟨ai, hai⟩ := get_some s1.at_ i (by rw [hk1.at_]; exact hil)
        obtain ⟨li, hli⟩ := get_some s1.low i (by rw [hk1.low]; exact hil)
        have hM' := hM
        rw [← HT.out] at hM'
        have q0 : W.cell? ⟨bp, 0, none⟩ = some (.pointer (some ⟨E.Bs, 0, none⟩)) := by have := hM'.cell 7 rfl 0; simpa using this
        have q1 : W.cell? ⟨bp + 1, 0, none⟩ = some (.int .i64 (i : Int)) := by have := hM'.cell 6 rfl 0; simpa using this
        have q2 : W.cell? ⟨E.Bs, 3, none⟩ = some E.vA := by have := hM'.cell 0 rfl 3; simpa using this
        obtain ⟨q3, _⟩ := hM'.intAt 2 rfl haj
        have hj1 : (0 : Int) ≤ (j : Int) := by omega
        have hj2 : (j : Int) < (E.g.objs.length : Int) := by omega
        have Hpl := Lib.hid hpl
        have HA := Lib.hid hA
        have Hk1 := Lib.hid hk1
        have Hko := Lib.hid hko
        have HM := Lib.hid hM
        have HjE := Lib.hid hjE
        have Haj := Lib.hid haj
        have Hcj := Lib.hid hcj
        have Hli := Lib.hid hli
        have Hx := Lib.hid hx
        simp only [laid]
        by_cases haj0 : aj = 0
        · subst haj0
          have hzl : zer s1.ts.at_ E.g.objs.length < m := by
            have h1 := hA.old
            have h2 : zer s1.ts.at_ E.g.objs.length < zer s.ts.at_ E.g.objs.length := by
              have h3 := zer_upd (f := s.ts.at_) (i := (i : Int)) (v := 1) hA.fresh (by decide) E.g.objs.length (by omega) (by omega)
              have h4 := zer_mono (f := upd s.ts.at_ (i : Int) 1) (g := s1.ts.at_) (fun x hx => by
                by_cases e : x = (i : Int)
                · subst e; exact hA.here
                · rw [upd_ne _ _ e] at hx
                  rw [hA.at_ x hx]; exact hx) E.g.objs.length
              omega
            have := Hm.out
            omega
          have hgl2 : ∀ x, (gray x ∨ x = (i : Int)) → Lead (EG E.g) x (j : Int) := by
            rintro x (h | rfl)
            · exact (Hgl.out x h).trans (.one hjE)
            · exact .one hjE
          have Hrec := Lib.hid (callsIn_wide.1 (Hih.out _ hzl s1 j _ W T hk1 hA.inv haj hgl2 (Nat.le_refl _) hM))
          clear hlen hsz hpl hA hk1 hko hM hM' hxv hxin hjE haj hcj hli hai hzl hgl2
          gi_wp2_with fail
          refine ⟨trivial, (callsIn_round Hrec.out).mono ?_⟩
          rintro e w6 ⟨s2, rfl, hS2, hk2, hM2, hko2⟩
          have hM7' := hM2
          rw [← HT.out] at hM7'
          obtain ⟨li2, hli2⟩ := get_some s2.low i (by rw [hk2.low]; exact hil)
          obtain ⟨lj2, hlj2⟩ := get_some s2.low j (by rw [hk2.low]; exact hj)
          have r0 : w6.cell? ⟨bp, 0, none⟩ = some (.pointer (some ⟨E.Bs, 0, none⟩)) := by have := hM7'.cell 7 rfl 0; simpa using this
          have r1 : w6.cell? ⟨bp + 1, 0, none⟩ = some (.int .i64 (i : Int)) := by have := hM7'.cell 6 rfl 0; simpa using this
          have r2 : w6.cell? ⟨E.Bs, 2, none⟩ = some E.vL := by have := hM7'.cell 0 rfl 2; simpa using this
          obtain ⟨r3, r4⟩ := hM7'.intAt 1 rfl hli2
          obtain ⟨r5, r6⟩ := hM7'.intAt 1 rfl hlj2
          have hM8 : Mem E.w0.heap.size E.w0 (w6.setCell ⟨E.gL, i, none⟩ (.int .i64 (min li2 lj2))).drew (E.own ⟨s2.low.set i (min li2 lj2), s2.at_, s2.comp, s2.stack, s2.vst, s2.va, s2.fs⟩ T) := by
            have := (hM7'.setI 1 rfl hk2.low i (min li2 lj2)).drew
            rw [← HT.out]
            exact this.cast (by simp)
          have hS4 : Amid (EG E.g) E.g.objs.length s.ts (CS.ts ⟨s2.low.set i (min li2 lj2), s2.at_, s2.comp, s2.stack, s2.vst, s2.va, s2.fs⟩) gray (i : Int) (pl ++ [(j : Int)]) := by
            rw [ts_setLow s2 i _ (by rw [hk2.low]; exact hil)]
            have h := HA.out.new HjE.out (by show rd s1.at_ 0 (j : Int) = 0; exact rd_some Haj.out) hS2
            have e1 : s2.ts.low (i : Int) = li2 := by show rd s2.low 0 (i : Int) = li2; exact rd_some hli2
            have e2 : s2.ts.low (j : Int) = lj2 := by show rd s2.low 0 (j : Int) = lj2; exact rd_some hlj2
            rw [e1, e2] at h; exact h
          have hk3 : (CS.mk (s2.low.set i (min li2 lj2)) s2.at_ s2.comp s2.stack s2.vst s2.va s2.fs).Ok E.g.objs.length := ⟨by rw [List.length_set]; exact hk2.low, hk2.at_, hk2.comp⟩
          have hkW : KeepsOthers W (w6.setCell ⟨E.gL, i, none⟩ (.int .i64 (min li2 lj2))).drew := (hko2.trans (KeepsOthers.setCell _ _ _)).trans (KeepsOthers.drew _)
          have HM8 := Lib.hid hM8
          have HS4 := Lib.hid hS4
          have Hk3 := Lib.hid hk3
          have HkW := Lib.hid hkW
          clear hM7' hM2 hS2 hk2 hko2 hM8 hS4 hk3 hkW hli2 hlj2
          gi_wp2
          refine region_round_tail 21 (by kernel_rfl) (by kernel_rfl) (by kernel_rfl) (by rintro ⟨a, w, h⟩; exact h) ?_
          simp only [List.take_succ_cons, List.take_zero, List.drop_succ_cons, List.drop_zero]
          repeat still_step
          try refine wpStill_nil ?_
          go_wp2_with fail
          refine ⟨HkW.out.from _, below_between HM.out.below HM8.out.below HkW.out.size, _, ⟨?_, Hk3.out⟩, Hko.out.trans HkW.out, HM8.out⟩
          rw [List.map_append, Hpl.out]
          exact HS4.out
        · have q4 : W.cell? ⟨E.Bs, 5, none⟩ = some E.vC := by have := hM'.cell 0 rfl 5; simpa using this
          obtain ⟨q5, _⟩ := hM'.intAt 3 rfl hcj
          by_cases hcj0 : cj < 0
          · have q6 : W.cell? ⟨E.Bs, 2, none⟩ = some E.vL := by have := hM'.cell 0 rfl 2; simpa using this
            obtain ⟨q7, q8⟩ := hM'.intAt 1 rfl hli
            have hM8 : Mem E.w0.heap.size E.w0 (W.setCell ⟨E.gL, i, none⟩ (.int .i64 (min li aj))).drew (E.own ⟨s1.low.set i (min li aj), s1.at_, s1.comp, s1.stack, s1.vst, s1.va, s1.fs⟩ T) := by
              have := (hM'.setI 1 rfl hk1.low i (min li aj)).drew
              rw [← HT.out]
              exact this.cast (by simp)
            have hS4 : Amid (EG E.g) E.g.objs.length s.ts (CS.ts ⟨s1.low.set i (min li aj), s1.at_, s1.comp, s1.stack, s1.vst, s1.va, s1.fs⟩) gray (i : Int) (pl ++ [(j : Int)]) := by
              rw [ts_setLow s1 i _ (by rw [hk1.low]; exact hil)]
              have e0 : s1.ts.at_ (j : Int) = aj := by show rd s1.at_ 0 (j : Int) = aj; exact rd_some haj
              have e3 : s1.ts.comp (j : Int) = cj := by show rd s1.comp (-1) (j : Int) = cj; exact rd_some hcj
              have h := hA.again hjE (by rw [e0]; exact haj0) (by rw [e3]; exact hcj0)
              have e1 : s1.ts.low (i : Int) = li := by show rd s1.low 0 (i : Int) = li; exact rd_some hli
              rw [e1, e0] at h; exact h
            have hk3 : (CS.mk (s1.low.set i (min li aj)) s1.at_ s1.comp s1.stack s1.vst s1.va s1.fs).Ok E.g.objs.length := ⟨by rw [List.length_set]; exact hk1.low, hk1.at_, hk1.comp⟩
            have hkW : KeepsOthers W (W.setCell ⟨E.gL, i, none⟩ (.int .i64 (min li aj))).drew := (KeepsOthers.setCell _ _ _).trans (KeepsOthers.drew _)
            have HM8 := Lib.hid hM8
            have HS4 := Lib.hid hS4
            have Hk3 := Lib.hid hk3
            have HkW := Lib.hid hkW
            clear hlen hsz hpl hA hk1 hko hM hM' hxv hxin hjE haj hcj hli hai hM8 hS4 hk3 hkW
            gi_wp2
            refine region_round_tail 21 (by kernel_rfl) (by kernel_rfl) (by kernel_rfl) (by rintro ⟨a, w, h⟩; exact h) ?_
            simp only [List.take_succ_cons, List.take_zero, List.drop_succ_cons, List.drop_zero]
            repeat still_step
            try refine wpStill_nil ?_
            go_wp2_with fail
            refine ⟨HkW.out.from _, below_between HM.out.below HM8.out.below HkW.out.size, _, ⟨?_, Hk3.out⟩, Hko.out.trans HkW.out, HM8.out⟩
            rw [List.map_append, Hpl.out]
            exact HS4.out
          · have HS2 := Lib.hid (hA.skip (j := (j : Int)) (by show 0 ≤ rd s1.comp (-1) (j : Int); rw [rd_some hcj]; omega))
            clear hlen hsz hpl hA hk1 hko hM hM' hxv hxin hjE haj hcj hli hai
            gi_wp2
            refine ⟨KeepsFrom.refl _ _, Below.refl _ _, s1, ⟨?_, Hk1.out⟩, Hko.out, HM.out⟩
            show Amid _ _ _ _ _ _ (List.map (·.1) (pre ++ [⟨(j : Int), hx⟩]))
            rw [List.map_append, Hpl.out]
            exact HS2.out

theorem walk_all (E : CompEnv) (hE : E.Ok) : ∀ m, WalkC E m := fun m => by
  induction m using Nat.strongRecOn with
  | _ m ih => exact walk_step E hE m ih
end Go.Proofs.Ytnpbdabboecpaaa
