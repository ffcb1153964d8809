/- path.Path, walked. -/
import Derived.Test.YtjeaaiklbefmmaaPf
namespace Go.Proofs.Ytjeaaiklbefmmaa
open Go.RowKit Go.Shelf Go.Maps Go.Sort

theorem rev_own (B : Nat) (w0 w : World) (L : List Ent) (hM : Mem B w0 w L) (k : Nat) (e : TypeId) (v : Value) (l : List Int) (hk : L[k]? = some (rowI e v l)) (hl : l.length ≤ 1000000) :
    Calls Try.prog 44 #[v] w fun e' w' => e' = .returned (.tuple #[]) ∧ Mem B w0 w' (L.set k (rowI e v l.reverse)) := by
  have hown := hM.ownI k hk
  rcases hown.2 with ⟨rfl, h0⟩ | ⟨g, cap, cur, rfl, hB, hg, hn, hcap, hcs, htk⟩
  · have h1 : l = [] := List.eq_nil_of_length_eq_zero h0
    subst h1
    refine (Try.slices_Reverse_int_empty none 0 w).mono ?_
    rintro e' w' ⟨rfl, rfl⟩
    refine ⟨rfl, hM.cast ?_⟩
    rw [show ([] : List Int).reverse = [] by simp]
    have hkl := (List.getElem?_eq_some_iff.1 hk)
    obtain ⟨h1, h2⟩ := hkl
    rw [← h2, List.set_getElem_self]
  · rw [Nat.mul_one] at htk
    refine (Try.slices_Reverse_int g 0 cap l w (holds_of_blockI hg htk) (by omega)).mono ?_
    rintro e' w' ⟨rfl, n, rfl⟩
    rw [← grow_empty (putRow _ _ _ _ _)]
    have hs := ownsRow_sortedI (n := n) (os := #[]) (e := e) (base := B) (ts := l.reverse) (ss := l) (by simp) hB hg hn hcap hcs
    refine ⟨rfl, hM.turn k hk (grownBy_sortedI _) ?_ (fun b hb => .inl hb)⟩
    have hrow := row_ok.2 hs
    unfold rowI
    rw [List.length_reverse]
    exact hrow

def lenOf : Value → Nat | .slice _ n _ => n | _ => 0

/-- What Path tells. -/
theorem PathS.chain {g : G} (hg : Good g) {E : List Pe} (h : PathS g E) {e : Pe} (he : e ∈ E) :
    (e.frm = -1 ∧ e.by_ = e.root ∧ e.way = [] ∧ 0 ≤ e.by_ ∧ e.by_ < 8) ∨ ∃ p ∈ E, 0 ≤ e.frm ∧ e.frm < 24 ∧ e.frm = p.obj ∧ e.root = p.root ∧ e.way = p.way ++ [e.by_] ∧ 0 ≤ e.by_ ∧ e.by_ < 4 := by
  obtain ⟨r, w, hi, _⟩ := (h.all hg).inv
  obtain ⟨i, hi1, rfl⟩ := List.getElem_of_mem he
  rcases hi.from_ i _ (List.getElem?_eq_getElem hi1) with h1 | ⟨j, p, h1, h2, h3, h4⟩
  · exact .inl h1
  · have hm := List.mem_of_getElem? h2
    have hr := hi.rng p hm
    have := hg.objs
    exact .inr ⟨p, hm, by omega, by omega, h3, h4⟩
theorem PathS.find {g : G} (hg : Good g) {E : List Pe} (h : PathS g E) {e : Pe} (he : e ∈ E) : fE E e.obj = some (stepV e) := by
  obtain ⟨e2, h1, h2, h3⟩ := fE_some (E := E) (y := e.obj) (List.mem_map.2 ⟨e, he, rfl⟩)
  obtain ⟨r, w, hi, _⟩ := (h.all hg).inv
  have : e2 = e := by
    obtain ⟨i, hi1, rfl⟩ := List.getElem_of_mem h1
    obtain ⟨j, hj1, rfl⟩ := List.getElem_of_mem he
    have : i = j := (List.getElem_inj (i := i) (j := j) (h₀ := by simpa using hi1) (h₁ := by simpa using hj1) hi.nodup).1 (by simpa using h2)
    subst this; rfl
  rw [h3, this]
theorem PathS.way_le {g : G} (hg : Good g) {E : List Pe} (h : PathS g E) : ∀ (n : Nat) (e : Pe), e ∈ E → e.way.length = n → n ≤ E.length := by
  -- each step goes to an earlier one
  obtain ⟨r, w, hi, _⟩ := (h.all hg).inv
  have key : ∀ (i : Nat) (e : Pe), E[i]? = some e → e.way.length ≤ i := by
    intro i
    induction i using Nat.strongRecOn with
    | _ i ih =>
      intro e he
      rcases hi.from_ i e he with ⟨_, _, h3, _⟩ | ⟨j, p, h1, h2, _, _, h5, _⟩
      · rw [h3]; simp
      · have := ih j h1 p h2
        rw [h5]; simp; omega
  intro n e he hn
  obtain ⟨i, hi1, rfl⟩ := List.getElem_of_mem he
  have := key i _ (List.getElem?_eq_getElem hi1)
  omega

set_option maxRecDepth 100000 in
set_option maxHeartbeats 400000 in
theorem path_bad (g : G) (v : Value) (x : Int) (w : World) (hg : IsGraph w v g) (h : ¬ Good g) :
    Calls Try.prog 20 #[v, .int .i64 x] w fun e w' => (∃ c : Int, (c == 0) = false ∧ e = .returned (.tuple #[.int .i64 0, .slice none 0 0, .bool false, .int .i64 c])) ∧ Below w.heap.size w w' := by
  have Hg := Lib.hid hg
  have H := Lib.hid h
  obtain ⟨ao, co, ar, cr, rfl, hlo, hlr⟩ := hg.shape
  clear hg h
  have hM0 := (Mem.start w).alloc #[.slice ao g.objs.length co, .slice ar g.roots.length cr] 25
  go_enter Try.func20, Try.ntmps20
  go_wp2_with fail
  refine (gcheck_no _ g _ (Hg.out.later hM0.below) H.out).mono ?_
  rintro e w1 ⟨⟨c, rfl, hc⟩, hb⟩
  have hM1 := hM0.call hb
  go_wp2
  refine bodyPost_ret (v := .tuple #[.int .i64 0, .slice none 0 0, .bool false, .int .i64 c]) (by simp [results, Try.results20, go_sem]) rfl ⟨⟨c, hc, rfl⟩, hM1.below⟩

set_option maxRecDepth 100000 in
set_option maxHeartbeats 400000 in
theorem path_out (g : G) (hG : Good g) (v : Value) (x : Int) (hx : x < 0 ∨ (g.objs.length : Int) ≤ x) (w : World) (hg : IsGraph w v g) :
    Calls Try.prog 20 #[v, .int .i64 x] w fun e w' => e = .returned (.tuple #[.int .i64 0, .slice none 0 0, .bool false, .int .i64 2]) ∧ Below w.heap.size w w' := by
  have Hg := Lib.hid hg
  obtain ⟨ao, co, ar, cr, rfl, hlo, hlr⟩ := hg.shape
  clear hg
  have hM0 := (Mem.start w).alloc #[.slice ao g.objs.length co, .slice ar g.roots.length cr] 25
  by_cases h0 : x < 0
  · clear hx
    go_enter Try.func20, Try.ntmps20
    go_wp2_with fail
    refine (gcheck_yes _ g _ (Hg.out.later hM0.below) hG).mono ?_
    rintro e w1 ⟨rfl, hb⟩
    have hM1 := hM0.call hb
    obtain ⟨p0, p1⟩ := hM1.cells2 0 rfl
    go_wp2
    refine bodyPost_ret (v := .tuple #[.int .i64 0, .slice none 0 0, .bool false, .int .i64 2]) (by simp [results, Try.results20, go_sem]) rfl ⟨rfl, hM1.below⟩
  · have h1 : (g.objs.length : Int) ≤ x := by omega
    clear hx
    go_enter Try.func20, Try.ntmps20
    go_wp2_with fail
    refine (gcheck_yes _ g _ (Hg.out.later hM0.below) hG).mono ?_
    rintro e w1 ⟨rfl, hb⟩
    have hM1 := hM0.call hb
    obtain ⟨p0, p1⟩ := hM1.cells2 0 rfl
    go_wp2
    refine bodyPost_ret (v := .tuple #[.int .i64 0, .slice none 0 0, .bool false, .int .i64 2]) (by simp [results, Try.results20, go_sem]) rfl ⟨rfl, hM1.below⟩

/-- What Path tells of an object: the way at which it stands, or none. -/
def PathSays (B : Nat) (w0 w' : World) (E : List Pe) (x : Int) (e : Ending) : Prop :=
  (∃ (q : Pe) (vw : Value), q ∈ E ∧ q.obj = x ∧ e = .returned (.tuple #[.int .i64 q.root, vw, .bool true, .int .i64 0]) ∧ Mem B w0 w' [rowI 3 vw q.way]) ∨
  ((∀ q ∈ E, q.obj ≠ x) ∧ e = .returned (.tuple #[.int .i64 0, .slice none 0 0, .bool false, .int .i64 0]) ∧ Mem B w0 w' [])

set_option maxRecDepth 100000 in
set_option maxHeartbeats 2000000 in
theorem path_in (g : G) (hG : Good g) (v : Value) (x : Nat) (hx : x < g.objs.length) (w : World) (hg : IsGraph w v g) :
    Calls Try.prog 20 #[v, .int .i64 x] w fun e w' => ∃ E, PathS g E ∧ PathSays w.heap.size w w' E x e := by
  have Hg := Lib.hid hg
  obtain ⟨ao, co, ar, cr, rfl, hlo, hlr⟩ := hg.shape
  have hn24 := hG.objs
  clear hg
  have hM0 := (Mem.start w).alloc #[.slice ao g.objs.length co, .slice ar g.roots.length cr] 25
  go_enter Try.func20, Try.ntmps20
  go_wp2_with fail
  refine (gcheck_yes _ g _ (Hg.out.later hM0.below) hG).mono ?_
  rintro e w1 ⟨rfl, hb⟩
  have hM1 := hM0.call hb
  obtain ⟨p0, p1⟩ := hM1.cells2 0 rfl
  go_wp2_with fail
  refine (first_any g hG _ w1 (Hg.out.later hM1.below)).mono ?_
  rintro e w2 ⟨E, bm, rfl, hE, hM2⟩
  have hM3 := hM1.callMem hM2
  have HE := Lib.hid hE
  clear hM2 hE
  have hxk : i64ok (x : Int) := ⟨by omega, by omega⟩
  have hl := (gmap_look (M := mapStep) (hM3.get 0 rfl) (x := (x : Int)) hxk).2
  by_cases hin : (x : Int) ∈ E.map (·.obj)
  · obtain ⟨q, hq, hqo, hf⟩ := fE_some hin
    rw [hf] at hl
    have hl2 : (Instr.lookup 69 (.map (some bm)) (.int .i64 x) true).run Try.prog w2 = .ok (.tuple #[.agg #[.int .i64 q.frm, .int .i64 q.by_], .bool true]) w2 := hl
    have hM4 := (hM3.alloc #[.int .i64 q.frm, .int .i64 q.by_] 72).nilI 3
    have HM4 := Lib.hid hM4
    have Hq := Lib.hid hq
    have Hqo := Lib.hid hqo
    clear hf hin hl hM4 hM3 hq hqo
    go_wp2
    go_loopw [12] (fun v wr => ∃ (p : Pe) (acc : List Int), p ∈ E ∧ q.root = p.root ∧ q.way = p.way ++ acc.reverse ∧ (∀ y ∈ acc, 0 ≤ y ∧ y < 8) ∧
      Mem w.heap.size w wr [rowI 3 v acc, ebox w2.heap.size #[.int .i64 p.frm, .int .i64 p.by_] 72, gmap mapStep bm E.length (fE E)]) (fun v _ => q.way.length - lenOf v)
    case atStart => exact ⟨q, [], Hq.out, rfl, by simp, by simp, HM4.out.pick0 [0, 1, 2] (by decide) rfl⟩
    case round =>
      clear HM4
      obtain ⟨p, acc, hp, hr, hw, ha, hM⟩ := hrel
      have hacc : acc.length ≤ E.length := by
        have h1 := HE.out.way_le hG _ q Hq.out rfl
        have h2 := congrArg List.length hw
        simp at h2
        omega
      obtain ⟨r0, w0, hi, _⟩ := (HE.out.all hG).inv
      have hEn := hi.le
      have hacc2 : acc.length ≤ 1000000 := by omega
      have hI := isInts_of_own (hM.ownI 0 rfl) hacc2 (fun y hy => by have := ha y hy; exact ⟨by omega, by omega⟩)
      obtain ⟨av, cv, rfl, _⟩ := hI.slice
      obtain ⟨s0, s1⟩ := hM.cells2 1 rfl
      have z0 : w2.heap.size < wr.heap.size := (hM.box 1 rfl).2.1
      clear hi hEn hI
      rcases HE.out.chain hG hp with ⟨h1, h2, h3, h4, h5⟩ | ⟨p', hp', h1, h2, h3, h4, h5, h6, h7⟩
      · rw [h1] at s0
        have hwe : q.way = acc.reverse := by rw [hw, h3]; rfl
        have hre : p.by_ = q.root := by rw [h2, hr]
        rw [hre] at s1
        have HM := Lib.hid hM
        have Hwe := Lib.hid hwe
        have Hacc2 := Lib.hid hacc2
        clear hM hwe hre hr hw h1 h2 h3 h4 h5 ha hacc hacc2 hp
        go_wp2_with fail
        refine (rev_own _ _ _ _ HM.out 0 _ _ acc rfl Hacc2.out).mono ?_
        rintro e w3 ⟨rfl, hM3⟩
        rw [← Hwe.out] at hM3
        have t1 : w3.cell? ⟨w2.heap.size, 1, none⟩ = some (.int .i64 q.root) := by
          have := hM3.cell 1 rfl 1
          have h2 := HM.out.cell 1 rfl 1
          rw [s1] at h2
          rw [this, ← h2]
        have HM3 := Lib.hid hM3
        clear hM3
        go_wp2
        trace_state
        refine bodyPost_ret (v := .tuple #[.int .i64 q.root, .slice av acc.length cv, .bool true, .int .i64 0]) (by simp [results, Try.results20, go_sem]) rfl ⟨E, HE.out, .inl ⟨q, _, Hq.out, Hqo.out, rfl, HM3.out.pick0 [0] (by decide) rfl⟩⟩
      · have hfr : i64ok p.frm := ⟨by omega, by omega⟩
        have hfind := HE.out.find hG hp'
        rw [← h3] at hfind
        have HM := Lib.hid hM
        have Hp' := Lib.hid hp'
        have Hr := Lib.hid (hr.trans h4)
        have Hw : Hid (q.way = p'.way ++ (acc ++ [p.by_]).reverse) := Lib.hid (by rw [hw, h5]; simp)
        have Ha : Hid (∀ y ∈ acc ++ [p.by_], 0 ≤ y ∧ y < 8) := Lib.hid (by
          intro y hy
          rcases List.mem_append.1 hy with h | h
          · exact ha y h
          · simp at h; subst h; omega)
        have Hfind := Lib.hid hfind
        have Hacc2 := Lib.hid hacc2
        clear hM hr hw h3 h4 h5 ha hacc hacc2 hp hp' hfind
        go_wp2_with (at_builtin; refine Mem.wp_appI elemInts rfl (.tmp 40) (.tmp 43) rfl HM.out 0 rfl rfl _ p.by_ _ _ rfl (by simp) Hacc2.out ?_; intro ad n1 cp w3 hn1 hM3 hs3 hk3 ha3
                     have hl3 : (Instr.lookup 69 (.map (some bm)) (.int .i64 p.frm) false).run Try.prog w3 = .ok (.agg #[.int .i64 p'.frm, .int .i64 p'.by_]) w3 := by
                       have := (gmap_look (M := mapStep) (hM3.get 2 rfl) (x := p.frm) hfr).1
                       rw [Hfind.out] at this
                       exact this
                     obtain ⟨u0, u1⟩ := hM3.cells2 (x := .int .i64 p.frm) (y := .int .i64 p.by_) 1 rfl
                     have u2 : w3.frozen? ⟨w2.heap.size, 0, none⟩ = false := hM3.free 1 rfl 0
                     have u3 : w3.frozen? ⟨w2.heap.size, 1, none⟩ = false := hM3.free 1 rfl 1
                     have hM4 := (hM3.setBox 1 rfl 0 (.int .i64 p'.frm)).setBox 1 rfl 1 (.int .i64 p'.by_)
                     have HM4 := Lib.hid hM4
                     clear hM3 hM4 hk3)
        go_roundw
        case rel => exact ⟨p', _, Hp'.out, Hr.out, Hw.out, Ha.out, HM4.out⟩
        case measure =>
          have h1 := congrArg List.length Hw.out
          have h2 := hn1.out
          simp at h1
          simp [lenOf]; omega
  · have hf := fE_none hin
    rw [hf] at hl
    have hl2 : (Instr.lookup 69 (.map (some bm)) (.int .i64 x) true).run Try.prog w2 = .ok (.tuple #[.agg #[.int .i64 0, .int .i64 0], .bool false]) w2 := hl
    have HM3 := Lib.hid hM3
    have Hno : Hid (∀ q ∈ E, q.obj ≠ (x : Int)) := Lib.hid (fun q hq e => hin (List.mem_map.2 ⟨q, hq, e⟩))
    clear hf hl hM3 hin
    go_wp2
    refine bodyPost_ret (v := .tuple #[.int .i64 0, .slice none 0 0, .bool false, .int .i64 0]) (by simp [results, Try.results20, go_sem]) rfl ⟨E, HE.out, .inr ⟨Hno.out, rfl, ((HM3.out.alloc_ _).drop (List.nil_sublist _))⟩⟩
end Go.Proofs.Ytjeaaiklbefmmaa
