/- IdealSplits, walked. -/
import Derived.Test.YtmmcjjklmcfegaaS7
namespace Go.Proofs.Ytmmcjjklmcfegaa
open Go.RowKit Go.Shelf

/-- The back of a slice. -/
theorem isTup_drop {α : Type} {sz : Nat} {enc : α → List Value} {w : World} {b o m c : Nat} {l : List α} (h : IsTup sz enc w (.slice (some ⟨b, o, none⟩) m c) l) (n : Nat) (hn : n ≤ l.length) : IsTup sz enc w (.slice (some ⟨b, o + n * sz, none⟩) (m - n) (c - n)) (l.drop n) := by
  obtain ⟨a', c', e, hl, hc⟩ := h
  cases e
  refine ⟨_, _, by rw [List.length_drop], by rw [List.length_drop]; omega, fun k x hx => ?_⟩
  rw [List.getElem?_drop] at hx
  obtain ⟨b', off, he, h1, h2⟩ := hc _ _ hx
  cases he
  refine ⟨b, o + n * sz, rfl, h1, fun j u hu => ?_⟩
  have := h2 j u hu
  rw [show o + (n + k) * sz + j = o + n * sz + k * sz + j by rw [Nat.add_mul]; omega] at this
  exact this
theorem isTup_nilD {α : Type} {sz : Nat} {enc : α → List Value} (w : World) (a : Option Addr) (c : Nat) : IsTup (α := α) sz enc w (.slice a 0 c) [] := ⟨a, c, rfl, by simp, by simp⟩
/-- Play at what behind tells, where it may be played. -/
def CPlayB (w : World) (v : Value) (g : G) (N : Nat) (ab : List Dd) : Prop :=
  ∀ (X : World) (L : List Ent) (R : Ending → World → Prop) (a : Option Addr) (c : Nat), Mem w.heap.size w X L → rowT 58 5 cellsD (.slice a N c) ab ∈ L →
    (∀ am cm a2 n2 c2 a3 n3 c3 (i : G) w', Mem w.heap.size w w' (rowT 89 3 cellsO (.slice am N cm) (runs iKd.step (startI g) ab).2 :: L) → CanonS (gOf (runs iKd.step (startI g) ab).1.regs (runs iKd.step (startI g) ab).1.os) i →
      Hid (∀ W' : World, w'.heap.size ≤ W'.heap.size → (∀ b, X.heap.size ≤ b → b < w'.heap.size → W'.heap[b]? = w'.heap[b]?) → IsGraph W' (.agg #[.slice a2 n2 c2, .slice a3 n3 c3]) i) → Below X.heap.size X w' →
      R (.returned (.tuple #[.slice am N cm, .agg #[.slice a2 n2 c2, .slice a3 n3 c3], .int .i64 0])) w') → Calls Try.prog 15 #[v, .slice a N c] X R
theorem cPlayB (w : World) (g : G) (hG : Good g) (v : Value) (ab : List Dd) (N : Nat) (hg : IsGraph w v g) (hd : ∀ d ∈ ab, DdOk d) (hl : ab.length = N) (hn : N ≤ 100) : CPlayB w v g N ab := by
  intro X L R a c hM hm hR
  obtain ⟨k, hk⟩ := List.getElem?_of_mem hm
  have hT := isTup_own4 (enc := cellsD) (fun _ => rfl) (hM.row k hk) (by omega)
  refine (iplay_yes g hG v _ ab X (hg.later hM.below) hT hd (by omega)).mono ?_
  rintro e w' ⟨vl, v', i, rfl, hca, hga, hM2⟩
  obtain ⟨vo3, vr3, rfl, ho3, hr3⟩ := hga.here
  obtain ⟨ao3, co3, rfl, _⟩ := ho3.slice
  obtain ⟨ar3, cr3, rfl, _⟩ := hr3.slice
  have hln : (runs iKd.step (startI g) ab).2.length = N := by rw [runs_len, hl]
  have hta := hM2.isTup 0 rfl (fun x => rfl) (by omega)
  obtain ⟨a3, c3, rfl, _⟩ := hta.slice
  have hM3 := hM.callMem hM2
  rw [hln] at hM3 ⊢
  exact hR a3 c3 _ _ _ _ _ _ i w' hM3 hca (Lib.hid hga) hM2.below
set_option maxRecDepth 100000 in
set_option maxHeartbeats 8000000 in
theorem isplit_yes (g : G) (hG : Good g) (v : Value) (au av : Option Addr) (cu cv : Nat) (a b : List Dd) (hk : a.length + b.length ≤ 100) (w : World) (hg : IsGraph w v g) (hu : IsTup 5 cellsD w (.slice au a.length cu) a) (hv : IsTup 5 cellsD w (.slice av b.length cv) b) (hda : ∀ d ∈ a, DdOk d) (hdb : ∀ d ∈ b, DdOk d) :
    Calls Try.prog 3 #[v, .slice au a.length cu, .slice av b.length cv] w fun e w' => e = .returned (.bool true) ∧ Below w.heap.size w w' := by
  have Hg := Lib.hid hg
  obtain ⟨vo, vr, rfl, ho, hr⟩ := hg
  obtain ⟨ao, co, rfl, hlo⟩ := ho.slice
  obtain ⟨ar, cr, rfl, hlr⟩ := hr.slice
  have hM0 := (Mem.start w).alloc #[.slice ao g.objs.length co, .slice ar g.roots.length cr] 25
  obtain ⟨n, hna⟩ : ∃ n, a.length = n := ⟨_, rfl⟩
  obtain ⟨m, hnb⟩ : ∃ m, b.length = m := ⟨_, rfl⟩
  obtain ⟨N, hN⟩ : ∃ N, n + m = N := ⟨_, rfl⟩
  have hB := cBeh w _ _ a b hu hv N (by omega) (by omega)
  have hdab : ∀ d ∈ a ++ b, DdOk d := fun d h => (List.mem_append.1 h).elim (hda d) (hdb d)
  have hP := cPlayB w g hG _ (a ++ b) N Hg.out hdab (by rw [List.length_append]; omega) (by omega)
  have hsp := fun h i => split_plain hG hk (h := h) (i := i)
  have hll1 : (runs iKd.step (startI g) a).2.length = n := by rw [runs_len, hna]
  have hll2 : ∀ h, (runs iKd.step (startI h) b).2.length = m := fun h => by rw [runs_len, hnb]
  obtain ⟨RA, hRA⟩ : ∃ RA, runs iKd.step (startI g) a = RA := ⟨_, rfl⟩
  obtain ⟨RB, hRB⟩ : ∃ RB, runs iKd.step (startI g) (a ++ b) = RB := ⟨_, rfl⟩
  unfold CBeh at hB
  unfold CPlayB at hP
  rw [hRB] at hP
  rw [hRA, hRB] at hsp
  rw [hRA] at hll1
  obtain ⟨ab, hab⟩ : ∃ ab, a ++ b = ab := ⟨_, rfl⟩
  rw [hab] at hB hP
  rw [hna] at hu
  rw [hnb] at hv
  rw [hna, hnb] at hk hB ⊢
  rw [hN] at hk
  have HI := Lib.hid (iplay_yes g hG _ _ a _ (Hg.out.later hM0.below) (hu.later hM0.below) hda (by omega))
  have HB := Lib.hid hB
  have HP := Lib.hid hP
  have Hv := Lib.hid hv
  have Hdb := Lib.hid hdb
  have Hsp := Lib.hid hsp
  have Hl1 := Lib.hid hll1
  have Hl2 := Lib.hid hll2
  have HRA := Lib.hid hRA
  have HnB := Lib.hid hnb
  have hN2 : (n : Int) + (m : Int) = (N : Int) := by omega
  have HM0 := Lib.hid hM0
  have HN := Lib.hid hN
  have hN100 : N ≤ 100 := hk
  clear hM0 ho hr hu hv hda hdb hB hP hdab hab hna hnb hk hN hG hsp hll1 hll2 hRA hRB
  go_enter Try.func3, Try.ntmps3
  go_wp2_with fail
  refine HI.out.mono ?_
  rintro e w1 ⟨vl, v', h, rfl, hca, hga, hM1⟩
  rw [HRA.out] at hca hM1
  obtain ⟨vo3, vr3, rfl, ho3, hr3⟩ := hga.here
  obtain ⟨ao3, co3, rfl, _⟩ := ho3.slice
  obtain ⟨ar3, cr3, rfl, _⟩ := hr3.slice
  have hta := hM1.isTup 0 rfl (fun x => rfl) (by have := Hl1.out; omega)
  obtain ⟨aL, cL, rfl, _⟩ := hta.slice
  rw [Hl1.out] at hM1 ⊢
  have hM2 := (HM0.out.callMem hM1).alloc #[.slice ao3 h.objs.length co3, .slice ar3 h.roots.length cr3] 25
  obtain ⟨W1, hW1⟩ : ∃ W1, w1.alloc (.cells #[.slice ao3 h.objs.length co3, .slice ar3 h.roots.length cr3] 25) = W1 := ⟨_, rfl⟩
  have hgh : IsGraph W1 (.agg #[.slice ao3 h.objs.length co3, .slice ar3 h.roots.length cr3]) h := hga.here.later (hW1 ▸ (Below.refl _ _).alloc (Nat.le_refl _) _)
  rw [hW1] at hM2
  simp only [List.cons_append, List.nil_append] at hM2
  obtain ⟨b8, hb8⟩ : ∃ b8, w1.heap.size = b8 := ⟨_, rfl⟩
  rw [hb8] at hM2
  have HNz := Lib.hid hM2
  have HW1 := Lib.hid hW1
  have Hb8 := Lib.hid hb8
  have Hgh := Lib.hid hgh
  have Hca := Lib.hid hca
  clear hM2 hW1 hga hM1 ho3 hr3 HI HM0 hb8 hgh hca hta
  go_upto_region 2 with (fail)
  rw [HW1.out, Hb8.out]
  clear HW1 Hb8
  go_cut [10, 11, 12] (fun s10 s11 s12 W => ∃ b11 am cm a2 n2 c2 a3 n3 c3 i, s10 = .slice am N cm ∧ s11 = .pointer (some ⟨b11, 0, none⟩) ∧ s12 = .int .i64 0 ∧ CanonS (gOf RB.1.regs RB.1.os) i ∧ IsGraph W (.agg #[.slice a2 n2 c2, .slice a3 n3 c3]) i ∧ Below W1.heap.size W1 W ∧
    Mem w.heap.size w W [ebox b11 #[.slice a2 n2 c2, .slice a3 n3 c3] 25, rowT 89 3 cellsO (.slice am N cm) RB.2, ebox b8 #[.slice ao3 h.objs.length co3, .slice ar3 h.roots.length cr3] 25, rowT 89 3 cellsO (.slice aL n cL) RA.2])
  case first =>
    go_region_held3 (fun X => X.cell? ⟨w.heap.size, 0, none⟩ = some (.slice ao g.objs.length co) ∧ X.cell? ⟨w.heap.size, 1, none⟩ = some (.slice ar g.roots.length cr))
      (first | (refine BoxIn.both (B := w.heap.size) (w0 := w) (t := 25) ?_; apply Exists.intro; apply And.intro; (focus (repeat (first | exact hR | exact HNz.out | with_reducible apply Mem.drew | with_reducible apply Mem.alloc | with_reducible apply Mem.setBox0))); (focus (repeat (first | exact List.mem_cons_self | refine List.mem_cons_of_mem _ ?_)))) | fail)
      (first
        | (go_at_call 16
           apply HB.out
           (focus (repeat (first | exact hR | exact HNz.out | with_reducible apply Mem.drew | with_reducible apply Mem.alloc | with_reducible apply Mem.setBox0)))
           intro ax cx w5 hR hb5
           have hB5 : Below W1.heap.size W1 w5 := by
             refine (show Below W1.heap.size W1 _ → _ from fun h => h.trans (hb5.mono h.size)) ?_
             exact (by repeat (first | exact Below.refl _ _ | assumption | refine Below.setCell ?_ (by first | exact Nat.le_refl _ | (simp; done) | (simp; omega) | (simp at *; omega)) _ | refine Below.alloc ?_ (by first | exact Nat.le_refl _ | (simp; done) | (simp; omega) | (simp at *; omega)) _ | refine Below.drew ?_))
           have hS5 := hb5.size
           simp at hS5
           have hS5' := hB5.size)
        | (go_at_call 15
           apply HP.out
           (focus (repeat (first | exact hR | exact HNz.out | with_reducible apply Mem.drew | with_reducible apply Mem.alloc | with_reducible apply Mem.setBox0)))
           (focus (repeat (first | exact List.mem_cons_self | refine List.mem_cons_of_mem _ ?_)))
           intro am cm a2 n2 c2 a3 n3 c3 i w6 hR hci hgi hb6
           have hB6 : Below W1.heap.size W1 w6 := by
             refine (show Below W1.heap.size W1 _ → _ from fun h => h.trans (hb6.mono h.size)) ?_
             exact (by repeat (first | exact Below.refl _ _ | assumption | refine Below.setCell ?_ (by first | exact Nat.le_refl _ | (simp; done) | (simp; omega) | (simp at *; omega)) _ | refine Below.alloc ?_ (by first | exact Nat.le_refl _ | (simp; done) | (simp; omega) | (simp at *; omega)) _ | refine Below.drew ?_))
           have hS6 := hB6.size
           (first
             | (refine box2 hR (b := W1.heap.size) (x := .slice none 0 0) (y := .slice none 0 0) (t := 25) ?_ ?_
                (focus ((repeat (first | exact List.mem_cons_self | refine List.mem_cons_of_mem _ ?_)); done))
                intro x0 x1 y0 y1 z0
                change Mem w.heap.size w w6 (_ :: _ :: ebox W1.heap.size #[.slice none 0 0, .slice none 0 0] 25 :: _) at hR
                replace hR := Mem.perm hR permC)
             | (refine box2 hR (b := w5.heap.size) (x := .slice none 0 0) (y := .slice none 0 0) (t := 25) ?_ ?_
                (focus ((repeat (first | exact List.mem_cons_self | refine List.mem_cons_of_mem _ ?_)); done))
                intro x0 x1 y0 y1 z0
                change Mem w.heap.size w w6 (_ :: ebox w5.heap.size #[.slice none 0 0, .slice none 0 0] 25 :: _) at hR
                replace hR := Mem.perm hR (List.Perm.swap _ _ _))
             | skip))
        | fail)
    all_goals
      go_wp2_with fail
      go_meet
      refine ⟨_, am, cm, a2, n2, c2, a3, n3, c3, i, rfl, rfl, rfl, hci, ?_, ?_, ?_⟩
      · refine hgi.out _ (by simp) (fun b h1 h2 => ?_)
        try simp at h1
        first
          | (rw [heap_alloc_old _ _ h2]; done)
          | (rw [heap_setCell_other _ _ _ _ (by simp only; omega), heap_setCell_other _ _ _ _ (by simp only; omega)])
      · exact (by repeat (first | exact Below.refl _ _ | assumption | refine Below.setCell ?_ (by first | exact Nat.le_refl _ | (simp; done) | (simp; omega) | (simp at *; omega)) _ | refine Below.alloc ?_ (by first | exact Nat.le_refl _ | (simp; done) | (simp; omega) | (simp at *; omega)) _ | refine Below.drew ?_))
      · apply mem_cps
        (focus (repeat (first | exact hR | exact HNz.out | with_reducible apply Mem.drew | with_reducible apply Mem.alloc | with_reducible apply Mem.setBox0)))
        intro hF
        first
          | exact hF.drop (.cons_cons _ (.cons_cons _ (.cons _ (.cons_cons _ (.cons_cons _ (List.nil_sublist _))))))
          | exact hF.drop (.cons_cons _ (.cons_cons _ (.cons_cons _ (.cons_cons _ (List.nil_sublist _)))))
          | fail
  case rest =>
    obtain ⟨b11, am, cm, a2, n2, c2, a3, n3, c3, i, rfl, rfl, rfl, hci, hgi, hB, hM⟩ := hcut
    clear HNz HB HP
    obtain ⟨hs1, ⟨hr8, hgood⟩, hki⟩ := Hsp.out h i Hca.out hci
    have hl2 := Hl2.out h
    have hbl : RB.2.length = N := by rw [hs1, List.length_append, Hl1.out, hl2, HN.out]
    have tM := hM.isTup 1 rfl (fun _ => rfl) (by omega)
    have tL := hM.isTup 3 rfl (fun _ => rfl) (by rw [Hl1.out]; omega)
    have kM := ownCap (hM.row 1 rfl)
    rw [hbl] at kM
    have hnN : n ≤ N := by have := HN.out; omega
    have tMn := isTup_take tM n (by omega)
    have e1 : RB.2.take n = RA.2 := by rw [hs1, ← Hl1.out]; simp
    have e2 : RB.2.drop n = (runs iKd.step (startI h) b).2 := by rw [hs1, ← Hl1.out]; simp
    rw [e1] at tMn
    have HO1 := Lib.hid (outs_yes _ _ RA.2 wc tMn tL)
    have tD : Hid (0 < m → ∃ gm, am = some ⟨gm, 0, none⟩ ∧ IsTup 3 cellsO wc (.slice (some ⟨gm, n * 3, none⟩) (N - n) (cm - n)) (runs iKd.step (startI h) b).2) := Lib.hid fun hm => by
      rcases (hM.row 1 rfl).2 with ⟨h1, h2⟩ | ⟨gm, cap, cur, h1, _⟩
      · have := HN.out; rw [hbl] at h2; omega
      · cases h1
        refine ⟨gm, rfl, ?_⟩
        have := isTup_drop tM n (by omega)
        rwa [e2, Nat.zero_add] at this
    have q0 : ((n : Int) != (n : Int)) = false := by simp
    have q1 : ((N : Int) != (N : Int)) = false := by simp
    have q2 : (((h.roots.length : Nat) : Int) != 8) = false := by rw [hr8]; rfl
    have q3 : IntKind.i64.wrap ((n : Int) + (m : Int)) = (N : Int) := by rw [hN2, IntKind.wrap_i64]; omega
    have HkM := Lib.hid kM
    have q4 : n ≤ cm := by omega
    have q5 : (n : Int) ≤ (cm : Int) := by omega
    have r0 := hM.cell 2 rfl 0
    have r1 := hM.cell 2 rfl 1
    have rb := (hM.box 2 rfl).2.1
    have HM := Lib.hid hM
    have Hgi := Lib.hid hgi
    have Hgh2 := Lib.hid (Hgh.out.later hB)
    have Hki := Lib.hid hki
    have Hgood := Lib.hid hgood
    have HB := Lib.hid hM.below
    have Hnn := Lib.hid hnN
    have Hl2' := Lib.hid hl2
    clear hM hgi hB hki hgood hci hs1 hr8 hl2 hbl tM tL kM tMn e1 e2 Hca Hgh
    go_wp2_with fail
    refine HO1.out.mono ?_
    rintro e w3 ⟨rfl, hb3⟩
    have hM3 := HM.out.call hb3
    have s0 := hM3.cell 2 rfl 0
    have s1 := hM3.cell 2 rfl 1
    have sb := (hM3.box 2 rfl).2.1
    have HM3 := Lib.hid hM3
    have Hb3 := Lib.hid hb3
    clear hM3 hb3 r0 r1 rb HO1
    by_cases h24 : h.objs.length ≤ 24
    · have hG' := Hgood.out h24
      have HPl := Lib.hid (iplay_yes h hG' _ _ b w3 (Hgh2.out.later Hb3.out) (Hv.out.later HM3.out.below) Hdb.out (by rw [HnB.out]; have := HN.out; omega))
      go_wp2_with fail
      refine HPl.out.mono ?_
      rintro e w4 ⟨vl, v', k, rfl, hck, hgk, hM4⟩
      obtain rfl := Hki.out k hck
      obtain ⟨vo3, vr3, rfl, ho3, hr3⟩ := hgk.here
      obtain ⟨ak, ck, rfl, _⟩ := ho3.slice
      obtain ⟨akr, ckr, rfl, _⟩ := hr3.slice
      have hta := hM4.isTup 0 rfl (fun x => rfl) (by rw [Hl2'.out]; have := HN.out; omega)
      obtain ⟨aN, cN, rfl, _⟩ := hta.slice
      rw [Hl2'.out] at hta ⊢
      have hM5 := (HM3.out.call hM4.below).alloc #[.slice ak i.objs.length ck, .slice akr i.roots.length ckr] 25
      obtain ⟨W5, hW5⟩ : ∃ W5, w4.alloc (.cells #[.slice ak i.objs.length ck, .slice akr i.roots.length ckr] 25) = W5 := ⟨_, rfl⟩
      have h45 : Below w4.heap.size w4 W5 := hW5 ▸ (Below.refl _ _).alloc (Nat.le_refl _) _
      rw [hW5] at hM5
      obtain ⟨b14, hb14⟩ : ∃ b14, w4.heap.size = b14 := ⟨_, rfl⟩
      rw [hb14] at hM5
      have t0 := hM5.cell 0 rfl 0
      have t1 := hM5.cell 0 rfl 1
      have tb := (hM5.box 0 rfl).2.1
      have u0 := hM5.cell 1 rfl 0
      have u1 := hM5.cell 1 rfl 1
      have ub := (hM5.box 1 rfl).2.1
      have h3c : Below wc.heap.size wc W5 := Hb3.out.trans ((hM4.below.mono Hb3.out.size).trans (h45.mono (Nat.le_trans Hb3.out.size hM4.below.size)))
      have HtN := Lib.hid (hta.later h45)
      have HgK := Lib.hid (hgk.here.later h45)
      have HgI := Lib.hid (Hgi.out.later h3c)
      have HM5 := Lib.hid hM5
      have HW5 := Lib.hid hW5
      have Hb14 := Lib.hid hb14
      have H3c := Lib.hid h3c
      clear hM5 hM4 hta hgk h45 hW5 hb14 h3c ho3 hr3 hck s0 s1 sb HPl
      by_cases hm0 : m = 0
      · subst hm0
        obtain rfl : N = n := by have := HN.out; omega
        have hb0 : b = [] := List.eq_nil_of_length_eq_zero HnB.out
        subst hb0
        have hcm : cm = N ∨ N < cm := by omega
        rcases hcm with rfl | hcm
        · go_upto_region 10 with (fail)
          rw [HW5.out, Hb14.out]
          go_wp2_with fail
          refine (outs_yes _ _ [] W5 HtN.out (isTup_nilD _ _ _)).mono ?_
          rintro e w6 ⟨rfl, hb6⟩
          have hM6 := HM5.out.call hb6
          have v0 := hM6.cell 0 rfl 0
          have v1 := hM6.cell 0 rfl 1
          have vb := (hM6.box 0 rfl).2.1
          have x0 := hM6.cell 1 rfl 0
          have x1 := hM6.cell 1 rfl 1
          have xb := (hM6.box 1 rfl).2.1
          have HM6 := Lib.hid hM6
          have HGs := Lib.hid (graphs_same _ _ i w6 (HgK.out.later hb6) (HgI.out.later hb6))
          clear hM6 hb6 t0 t1 tb u0 u1 ub
          go_wp2_with fail
          refine HGs.out.mono ?_
          rintro e w7 ⟨rfl, hb7⟩
          have HB7 := Lib.hid (HM6.out.call hb7).below
          clear hb7
          go_wp2
          go_ret
          exact ⟨rfl, HB7.out⟩
        · have z0 : ¬ cm = N := by omega
          have z1 : ¬ cm - N = 0 := by omega
          go_upto_region 10 with (fail)
          rw [HW5.out, Hb14.out]
          go_wp2_with fail
          refine (outs_yes _ _ [] W5 HtN.out (isTup_nilD _ _ _)).mono ?_
          rintro e w6 ⟨rfl, hb6⟩
          have hM6 := HM5.out.call hb6
          have v0 := hM6.cell 0 rfl 0
          have v1 := hM6.cell 0 rfl 1
          have vb := (hM6.box 0 rfl).2.1
          have x0 := hM6.cell 1 rfl 0
          have x1 := hM6.cell 1 rfl 1
          have xb := (hM6.box 1 rfl).2.1
          have HM6 := Lib.hid hM6
          have HGs := Lib.hid (graphs_same _ _ i w6 (HgK.out.later hb6) (HgI.out.later hb6))
          clear hM6 hb6 t0 t1 tb u0 u1 ub
          go_wp2_with fail
          refine HGs.out.mono ?_
          rintro e w7 ⟨rfl, hb7⟩
          have HB7 := Lib.hid (HM6.out.call hb7).below
          clear hb7
          go_wp2
          go_ret
          exact ⟨rfl, HB7.out⟩
      · obtain ⟨gm, rfl, tD2⟩ := tD.out (by omega)
        have hNm : N - n = m := by have := HN.out; omega
        rw [hNm] at tD2
        have HtD := Lib.hid (tD2.later H3c.out)
        have hkM := HkM.out
        have z0 : ¬ cm = n := by have := HN.out; omega
        have z1 : ¬ cm - n = 0 := by have := HN.out; omega
        have z2 : n < cm := by have := HN.out; omega
        have z3 : (n : Int) < (cm : Int) := by omega
        have z4 : (n : Int) ≤ (N : Int) := by have := Hnn.out; omega
        have z5 : n ≤ N := Hnn.out
        have z6 : N ≤ cm := by have := HN.out; omega
        clear tD2
        go_upto_region 10 with (fail)
        rw [HW5.out, Hb14.out]
        go_wp2_with fail
        refine (outs_yes _ _ _ W5 HtN.out HtD.out).mono ?_
        rintro e w6 ⟨rfl, hb6⟩
        have hM6 := HM5.out.call hb6
        have v0 := hM6.cell 0 rfl 0
        have v1 := hM6.cell 0 rfl 1
        have vb := (hM6.box 0 rfl).2.1
        have x0 := hM6.cell 1 rfl 0
        have x1 := hM6.cell 1 rfl 1
        have xb := (hM6.box 1 rfl).2.1
        have HM6 := Lib.hid hM6
        have HGs := Lib.hid (graphs_same _ _ i w6 (HgK.out.later hb6) (HgI.out.later hb6))
        clear hM6 hb6 t0 t1 tb u0 u1 ub
        go_wp2_with fail
        refine HGs.out.mono ?_
        rintro e w7 ⟨rfl, hb7⟩
        have HB7 := Lib.hid (HM6.out.call hb7).below
        clear hb7
        go_wp2
        go_ret
        exact ⟨rfl, HB7.out⟩
    · have HPl := Lib.hid (iplay_no h _ _ b w3 (Hgh2.out.later Hb3.out) (Hv.out.later HM3.out.below) (fun hh => h24 hh.1.objs))
      have q6 : (24 : Int) < (h.objs.length : Int) := by omega
      go_wp2_with fail
      refine HPl.out.mono ?_
      rintro e w4 ⟨x, hx, _, rfl, hb4⟩
      rw [show NilG = .agg #[.slice none 0 0, .slice none 0 0] from rfl]
      have hxn : (x != 0) = true := by rw [bne, hx]; rfl
      have hM5 := (HM3.out.call hb4).alloc #[.slice none 0 0, .slice none 0 0] 25
      obtain ⟨W5, hW5⟩ : ∃ W5, w4.alloc (.cells #[.slice none 0 0, .slice none 0 0] 25) = W5 := ⟨_, rfl⟩
      rw [hW5] at hM5
      have t0 := hM5.cell 3 rfl 0
      have tb := (hM5.box 3 rfl).2.1
      have HB5 := Lib.hid hM5.below
      have HW5 := Lib.hid hW5
      clear hM5 hb4 hW5 s0 s1 sb HPl
      go_upto_region 9 with (fail)
      rw [HW5.out]
      go_wp2
      go_ret
      exact ⟨rfl, HB5.out⟩
theorem isplit_walk (W : World) (v0 v1 v2 : Value) (g0 : ∃ g, IsGraph W v0 g) {N M : Nat} (g1 : ∃ ds : List Dd, (IsTup 5 cellsD W v1 ds ∧ ∀ d ∈ ds, DdOk d) ∧ ds.length ≤ N) (g2 : ∃ ds : List Dd, (IsTup 5 cellsD W v2 ds ∧ ∀ d ∈ ds, DdOk d) ∧ ds.length ≤ M) (hs : N + M ≤ 4000000) :
    Calls Try.prog 3 #[v0, v1, v2] W fun e w' => e = .returned (.bool true) ∧ Below W.heap.size W w' := by
  obtain ⟨g, hg⟩ := g0
  obtain ⟨a, ⟨hu, hda⟩, ha⟩ := g1
  obtain ⟨b, ⟨hv, hdb⟩, hb⟩ := g2
  obtain ⟨au, cu, rfl, _⟩ := hu.slice
  obtain ⟨av, cv, rfl, _⟩ := hv.slice
  by_cases hk : Good g ∧ a.length + b.length ≤ 100
  · exact isplit_yes g hk.1 v0 au av cu cv a b hk.2 W hg hu hv hda hdb
  · exact isplit_no g v0 au av cu cv a b hk (by omega) W hg hu hv hda hdb
end Go.Proofs.Ytmmcjjklmcfegaa
