/- trial.Trial, walked. -/
import Derived.Test.YtdmgpiimacnapaaTg
import Derived.Test.YtdmgpiimacnapaaGc
import Derived.Deep.RegionHeld3
import Derived.Deep.LoopGhost
import Derived.Deep.DeepCutAuto
namespace Go.Proofs.Ytdmgpiimacnapaa
open Go.RowKit Go.Shelf

theorem TakeS.app {g : G} {s s1 s2 : List Int × List Int} {xs ys : List Int} (h : TakeS g s s1 xs (fun _ => 0)) (h2 : TakeS g s1 s2 ys (fun _ => 0)) : TakeS g s s2 (xs ++ ys) (fun _ => 0) := by
  refine ⟨h2.len.trans h.len, h2.lenF.trans h.lenF, fun j hj => h2.sub j (h.sub j hj), ?_, ?_, ?_, ?_⟩
  · intro z hz
    rcases List.mem_append.1 hz with h1 | h1
    · exact h2.sub z (h.has z h1)
    · exact h2.has z h1
  · intro i hi
    rcases h2.new i hi with h1 | h1
    · rcases h.new i h1 with h3 | h3
      · exact .inl h3
      · exact .inr fun j hj => h2.sub j (h3 j hj)
    · exact .inr h1
  · intro S hS hxs j hj
    rcases h2.least S hS (fun z hz => hxs z (List.mem_append_right _ hz)) j hj with h1 | h1
    · exact h.least S hS (fun z hz => hxs z (List.mem_append_left _ hz)) j h1
    · exact .inr h1
  · intro j hj
    have h3 := h.sums j hj
    have h4 := h2.sums j hj
    omega
theorem allV_len {g : G} (hG : Good g) : (targets (allV g)).length ≤ 104 := by
  have h1 : (targets (allV g)).length ≤ (allV g).length := by unfold targets; rw [List.length_map]; exact List.length_filter_le _ _
  have h2 : ∀ (l : List (List V)), (∀ o ∈ l, o.length ≤ 4) → l.flatten.length ≤ 4 * l.length := by
    intro l
    induction l with
    | nil => intro _; simp
    | cons a l ih =>
      intro h
      have h3 := ih fun o ho => h o (List.mem_cons_of_mem _ ho)
      have h4 := h a List.mem_cons_self
      rw [List.flatten_cons, List.length_append, List.length_cons]; omega
  have h3 := h2 g.objs hG.fields
  have h4 := hG.objs
  have h5 := hG.roots
  have h6 : (allV g).length = g.roots.length + g.objs.flatten.length := by unfold allV; rw [List.length_append]
  omega
theorem tryPre_of {g : G} (hG : Good g) {s : List Int × List Int} {xs : List Int} (h : TakeS g (List.replicate g.objs.length 0, cntL g.objs.length (targets (allV g))) s xs (fun _ => 0)) : TryPre g s := by
  have hl1 : s.1.length = g.objs.length := by rw [h.len]; simp
  have hl2 : s.2.length = g.objs.length := by rw [h.lenF]; simp [cntL_len]
  have hr : rest s.1 ≤ s.1.length := List.countP_le_length
  have hn := hG.objs
  have key : ∀ j : Nat, j < g.objs.length → 0 ≤ s.2.getD j 0 + (cntOut g s.1 j : Nat) ∧ s.2.getD j 0 + (cntOut g s.1 j : Nat) ≤ 104 := by
    intro j hj
    have h3 := h.sums j hj
    simp only at h3
    rw [cntL_getD _ hj, cntOut_zero] at h3
    have := List.count_le_length (a := (j : Int)) (l := targets (allV g))
    have := allV_len hG
    omega
  exact ⟨hl1, hl2, fun j hj => by have := key j hj; omega, fun j hj => by have := key j hj; omega⟩
def TrialSays (g : G) (fr : List Int) (w w' : World) (e : Ending) : Prop := ∃ vl L, e = .returned (.tuple #[vl, .int .i64 0]) ∧ TrialS g fr L ∧ Mem w.heap.size w w' [rowI 3 vl L]
set_option maxRecDepth 100000 in
set_option maxHeartbeats 4000000 in
theorem trial_yes (g : G) (hG : Good g) (v u : Value) (fr : List Int) (w : World) (hg : IsGraph w v g) (hu : IsInts w u fr) (hfl : fr.length ≤ 24) (hf : ∀ x ∈ fr, 0 ≤ x ∧ x < (g.objs.length : Int)) :
    Calls Try.prog 31 #[v, u] w fun e w' => TrialSays g fr w w' e := by
  have Hg := Lib.hid hg
  obtain ⟨vo, vr, rfl, ho, hr⟩ := hg
  obtain ⟨ao, co, rfl, hlo⟩ := ho.slice
  obtain ⟨ar, cr, rfl, hlr⟩ := hr.slice
  obtain ⟨au, cu, rfl, hlu⟩ := hu.slice
  have hn := hG.objs
  have Hu := Lib.hid hu
  have Ho := Lib.hid ho
  have Hr := Lib.hid hr
  have Hf := Lib.hid hf
  clear ho hr hu hf
  obtain ⟨N, hN⟩ : ∃ N, fr.length = N := ⟨_, rfl⟩
  rw [hN] at hfl hlu
  rw [hN]
  have HN := Lib.hid hN
  clear hN
  have hM0 := (Mem.start w).alloc #[.slice ao g.objs.length co, .slice ar g.roots.length cr] 25
  go_enter Try.func31, Try.ntmps31
  go_wp2_with fail
  refine (gcheck_yes _ g _ (Hg.out.later hM0.below) hG).mono ?_
  rintro e w1 ⟨rfl, hb1⟩
  have hM1 := hM0.call hb1
  obtain ⟨p0, p1⟩ := hM1.cells2 0 rfl
  have z0 : w.heap.size < w1.heap.size := (hM1.box 0 rfl).2.1
  have HM1 := Lib.hid hM1
  clear hM0 hM1 hb1
  go_wp2
  go_loop [30] (fun iv => ∃ k : Nat, k ≤ N ∧ iv = .int .i64 k) (fun iv => N - (intOf iv).toNat)
  case atStart => exact ⟨0, Nat.zero_le _, rfl⟩
  case round =>
    obtain ⟨k, hk, rfl⟩ := hrel
    by_cases hlt : k < N
    · obtain ⟨x, hx⟩ := get_some fr k (by rw [HN.out]; exact hlt)
      obtain ⟨bx, ox, cx, hv, hbx, hnx, c1, _⟩ := Hu.out.at HM1.out.below hx
      rw [HN.out] at hv
      cases hv
      have hxk := Hf.out x (List.mem_of_getElem? hx)
      obtain ⟨hx0, hx1⟩ := hxk
      clear hx
      go_wp2
      go_round
      case rel => exact ⟨k + 1, by omega, by go_num⟩
      case measure => simp [intOf]; omega
    · obtain rfl : N = k := by omega
      obtain ⟨inf, hinf, hz, hsz, hby⟩ := elemInts.info
      obtain ⟨w3, hr1, a1, a2⟩ := run_make_full (P := Try.prog) (w1.drew) (w1.drew).heap.size 27 3 inf _ 1 elemInts.under hinf hz hsz .i64 .i64 g.objs.length (by rw [hby]; omega) (by simp [maxLen]; omega) (Nat.le_refl _)
      have hM3 := (HM1.out.drew).make_own a1 a2
      clear a1 a2
      obtain ⟨w4, hr2, a1, a2⟩ := run_make_full (P := Try.prog) (w3) (w3).heap.size 27 3 inf _ 1 elemInts.under hinf hz hsz .i64 .i64 g.objs.length (by rw [hby]; omega) (by simp [maxLen]; omega) (Nat.le_refl _)
      have hM4 := (hM3).make_own a1 a2
      clear a1 a2
      obtain ⟨w5, hr3, a1, a2⟩ := run_make_full (P := Try.prog) (w3.alloc (.cells #[.pointer none] 81)) (w3.alloc (.cells #[.pointer none] 81)).heap.size 27 3 inf _ 1 elemInts.under hinf hz hsz .i64 .i64 g.objs.length (by rw [hby]; omega) (by simp [maxLen]; omega) (Nat.le_refl _)
      have hM5 := (hM3.alloc #[.pointer none] 81).make_own a1 a2
      clear a1 a2
      obtain ⟨w6, hr4, a1, a2⟩ := run_make_full (P := Try.prog) ((w1.alloc (.cells #[.pointer none] 81)).drew) ((w1.alloc (.cells #[.pointer none] 81)).drew).heap.size 27 3 inf _ 1 elemInts.under hinf hz hsz .i64 .i64 g.objs.length (by rw [hby]; omega) (by simp [maxLen]; omega) (Nat.le_refl _)
      have hM6 := ((HM1.out.alloc #[.pointer none] 81).drew).make_own a1 a2
      clear a1 a2
      obtain ⟨w7, hr5, a1, a2⟩ := run_make_full (P := Try.prog) (w6) (w6).heap.size 27 3 inf _ 1 elemInts.under hinf hz hsz .i64 .i64 g.objs.length (by rw [hby]; omega) (by simp [maxLen]; omega) (Nat.le_refl _)
      have hM7 := (hM6).make_own a1 a2
      clear a1 a2
      rw [show (w3.alloc (.cells #[.pointer none] 81)).heap.size = w3.heap.size + 1 from by simp] at hM5
      rw [show ((w1.alloc (.cells #[.pointer none] 81)).drew).heap.size = w1.heap.size + 1 from by simp] at hM6 hM7
      clear hinf hz hsz hby
      have e3 : w3.cell? ⟨w.heap.size, 0, none⟩ = some (.slice ao g.objs.length co) ∧ w3.cell? ⟨w.heap.size, 1, none⟩ = some (.slice ar g.roots.length cr) := hM3.cells2 1 rfl
      have e4 : w4.cell? ⟨w.heap.size, 0, none⟩ = some (.slice ao g.objs.length co) ∧ w4.cell? ⟨w.heap.size, 1, none⟩ = some (.slice ar g.roots.length cr) := hM4.cells2 2 rfl
      have e5 : w5.cell? ⟨w.heap.size, 0, none⟩ = some (.slice ao g.objs.length co) ∧ w5.cell? ⟨w.heap.size, 1, none⟩ = some (.slice ar g.roots.length cr) := hM5.cells2 3 rfl
      have e6 : w6.cell? ⟨w.heap.size, 0, none⟩ = some (.slice ao g.objs.length co) ∧ w6.cell? ⟨w.heap.size, 1, none⟩ = some (.slice ar g.roots.length cr) := hM6.cells2 2 rfl
      have e7 : w7.cell? ⟨w.heap.size, 0, none⟩ = some (.slice ao g.objs.length co) ∧ w7.cell? ⟨w.heap.size, 1, none⟩ = some (.slice ar g.roots.length cr) := hM7.cells2 3 rfl
      have hsame : ∀ (W : World) (o : Obj), (w.heap.size < W.heap.size) → (W.cell? ⟨w.heap.size, 0, none⟩ = some (.slice ao g.objs.length co) ∧ W.cell? ⟨w.heap.size, 1, none⟩ = some (.slice ar g.roots.length cr)) →
          ((W.alloc o).cell? ⟨w.heap.size, 0, none⟩ = some (.slice ao g.objs.length co) ∧ (W.alloc o).cell? ⟨w.heap.size, 1, none⟩ = some (.slice ar g.roots.length cr)) := by
        intro W o hz h
        exact ⟨(((Below.refl _ W).alloc (Nat.le_refl _) _).cell (p := ⟨_, _, none⟩) hz).trans h.1, (((Below.refl _ W).alloc (Nat.le_refl _) _).cell (p := ⟨_, _, none⟩) hz).trans h.2⟩
      have hset : ∀ (W : World) (b : Nat) (u : Value), w.heap.size < W.heap.size → w.heap.size < b → (W.cell? ⟨w.heap.size, 0, none⟩ = some (.slice ao g.objs.length co) ∧ W.cell? ⟨w.heap.size, 1, none⟩ = some (.slice ar g.roots.length cr)) →
          ((W.setCell ⟨b, 0, none⟩ u).cell? ⟨w.heap.size, 0, none⟩ = some (.slice ao g.objs.length co) ∧ (W.setCell ⟨b, 0, none⟩ u).cell? ⟨w.heap.size, 1, none⟩ = some (.slice ar g.roots.length cr)) := by
        intro W b u hz hb h
        exact ⟨(((Below.refl (w.heap.size + 1) W).setCell (show w.heap.size + 1 ≤ (⟨b, 0, none⟩ : Addr).block from hb) u).cell (p := ⟨_, _, none⟩) (Nat.lt_succ_self _)).trans h.1, (((Below.refl (w.heap.size + 1) W).setCell (show w.heap.size + 1 ≤ (⟨b, 0, none⟩ : Addr).block from hb) u).cell (p := ⟨_, _, none⟩) (Nat.lt_succ_self _)).trans h.2⟩
      have z3 : w.heap.size < w3.heap.size := (hM3.box 1 rfl).2.1
      have z4 : w.heap.size < w4.heap.size := (hM4.box 2 rfl).2.1
      have z5 : w.heap.size < w5.heap.size := (hM5.box 3 rfl).2.1
      have z6 : w.heap.size < w6.heap.size := (hM6.box 2 rfl).2.1
      have z7 : w.heap.size < w7.heap.size := (hM7.box 3 rfl).2.1
      have f5 : w5.frozen? ⟨w3.heap.size, 0, none⟩ = false := hM5.free 1 rfl 0
      have f7 : w7.frozen? ⟨w1.heap.size, 0, none⟩ = false := hM7.free 2 rfl 0
      have c5 : w5.cell? ⟨w3.heap.size, 0, none⟩ = some (.pointer none) := by have := hM5.cell 1 rfl 0; simpa using this
      have c7 : w7.cell? ⟨w1.heap.size, 0, none⟩ = some (.pointer none) := by have := hM7.cell 2 rfl 0; simpa using this
      have g5 : w3.heap.size < w5.heap.size := (hM5.box 1 rfl).2.1
      have g7 : w1.heap.size < w7.heap.size := (hM7.box 2 rfl).2.1
      have HM4 := Lib.hid hM4
      have HM5 := Lib.hid hM5
      have HM7 := Lib.hid hM7
      have Hsame := Lib.hid hsame
      have Hset := Lib.hid hset
      clear hM3 hM4 hM5 hM6 hM7 hsame hset
      go_wp2_with fail
      go_cut [9] (fun s9 W => ∃ Bp Bt gS gF, s9 = .pointer (some ⟨Bp, 0, none⟩) ∧ Mem w.heap.size w W [ebox Bt #[.slice ao g.objs.length co, .slice ar g.roots.length cr, .slice (some ⟨gS, 0, none⟩) g.objs.length g.objs.length, .slice (some ⟨gF, 0, none⟩) g.objs.length g.objs.length] 83,
        rowI 3 (.slice (some ⟨gS, 0, none⟩) g.objs.length g.objs.length) (List.replicate g.objs.length 0), rowI 3 (.slice (some ⟨gF, 0, none⟩) g.objs.length g.objs.length) (List.replicate g.objs.length 0), ebox Bp #[.pointer (some ⟨Bt, 0, none⟩)] 81, ebox w.heap.size #[.slice ao g.objs.length co, .slice ar g.roots.length cr] 25])
      case first =>
        go_region_held3 (fun W => W.cell? ⟨w.heap.size, 0, none⟩ = some (.slice ao g.objs.length co) ∧ W.cell? ⟨w.heap.size, 1, none⟩ = some (.slice ar g.roots.length cr))
          (first | exact ⟨by simpa using p0, by simpa using p1⟩ | exact e3 | exact e4 | exact e5 | exact e6 | exact e7 | (refine Hsame.out _ _ ?_ ?_; (focus (first | assumption | (simp; omega))); (first | exact ⟨by simpa using p0, by simpa using p1⟩ | exact e3 | exact e4 | exact e5 | exact e6 | exact e7 | (refine Hsame.out _ _ ?_ ?_; (focus (first | assumption | (simp; omega))); (first | exact ⟨by simpa using p0, by simpa using p1⟩ | exact e3 | exact e4 | exact e5 | exact e6 | exact e7)) | (refine Hset.out _ _ _ ?_ ?_ ?_; assumption; assumption; (first | exact ⟨by simpa using p0, by simpa using p1⟩ | exact e3 | exact e4 | exact e5 | exact e6 | exact e7)))))
          (fail)
        all_goals
          go_wp2_with fail
          go_meet
          first
            | exact ⟨w4.heap.size + 1, w4.heap.size, w1.heap.size, w3.heap.size, rfl, ((HM4.out.alloc #[.slice ao g.objs.length co, .slice ar g.roots.length cr, .slice (some ⟨w1.heap.size, 0, none⟩) g.objs.length g.objs.length, .slice (some ⟨w3.heap.size, 0, none⟩) g.objs.length g.objs.length] 83).allocAt (w4.heap.size + 1) (by simp) #[.pointer (some ⟨w4.heap.size, 0, none⟩)] 81).pick0 [1, 3, 2, 0, 4] (by decide) rfl⟩
            | exact ⟨w4.heap.size, w4.heap.size + 1, w1.heap.size, w3.heap.size, rfl, ((HM4.out.alloc #[.pointer (some ⟨w4.heap.size + 1, 0, none⟩)] 81).allocAt (w4.heap.size + 1) (by simp) #[.slice ao g.objs.length co, .slice ar g.roots.length cr, .slice (some ⟨w1.heap.size, 0, none⟩) g.objs.length g.objs.length, .slice (some ⟨w3.heap.size, 0, none⟩) g.objs.length g.objs.length] 83).pick0 [0, 3, 2, 1, 4] (by decide) rfl⟩
            | exact ⟨w4.heap.size + 1, w4.heap.size, w3.heap.size, w1.heap.size, rfl, ((HM4.out.alloc #[.slice ao g.objs.length co, .slice ar g.roots.length cr, .slice (some ⟨w3.heap.size, 0, none⟩) g.objs.length g.objs.length, .slice (some ⟨w1.heap.size, 0, none⟩) g.objs.length g.objs.length] 83).allocAt (w4.heap.size + 1) (by simp) #[.pointer (some ⟨w4.heap.size, 0, none⟩)] 81).pick0 [1, 2, 3, 0, 4] (by decide) rfl⟩
            | exact ⟨w4.heap.size, w4.heap.size + 1, w3.heap.size, w1.heap.size, rfl, ((HM4.out.alloc #[.pointer (some ⟨w4.heap.size + 1, 0, none⟩)] 81).allocAt (w4.heap.size + 1) (by simp) #[.slice ao g.objs.length co, .slice ar g.roots.length cr, .slice (some ⟨w3.heap.size, 0, none⟩) g.objs.length g.objs.length, .slice (some ⟨w1.heap.size, 0, none⟩) g.objs.length g.objs.length] 83).pick0 [0, 2, 3, 1, 4] (by decide) rfl⟩
            | exact ⟨w3.heap.size, w5.heap.size, w1.heap.size, w3.heap.size + 1, rfl, ((HM5.out.setBox 1 rfl 0 (.pointer (some ⟨w5.heap.size, 0, none⟩))).allocAt w5.heap.size (by simp) #[.slice ao g.objs.length co, .slice ar g.roots.length cr, .slice (some ⟨w1.heap.size, 0, none⟩) g.objs.length g.objs.length, .slice (some ⟨w3.heap.size + 1, 0, none⟩) g.objs.length g.objs.length] 83).pick0 [0, 3, 1, 2, 4] (by decide) rfl⟩
            | exact ⟨w3.heap.size, w5.heap.size, w3.heap.size + 1, w1.heap.size, rfl, ((HM5.out.setBox 1 rfl 0 (.pointer (some ⟨w5.heap.size, 0, none⟩))).allocAt w5.heap.size (by simp) #[.slice ao g.objs.length co, .slice ar g.roots.length cr, .slice (some ⟨w3.heap.size + 1, 0, none⟩) g.objs.length g.objs.length, .slice (some ⟨w1.heap.size, 0, none⟩) g.objs.length g.objs.length] 83).pick0 [0, 1, 3, 2, 4] (by decide) rfl⟩
            | exact ⟨w1.heap.size, w7.heap.size, w1.heap.size + 1, w6.heap.size, rfl, ((HM7.out.setBox 2 rfl 0 (.pointer (some ⟨w7.heap.size, 0, none⟩))).allocAt w7.heap.size (by simp) #[.slice ao g.objs.length co, .slice ar g.roots.length cr, .slice (some ⟨w1.heap.size + 1, 0, none⟩) g.objs.length g.objs.length, .slice (some ⟨w6.heap.size, 0, none⟩) g.objs.length g.objs.length] 83).pick0 [0, 2, 1, 3, 4] (by decide) rfl⟩
            | exact ⟨w1.heap.size, w7.heap.size, w6.heap.size, w1.heap.size + 1, rfl, ((HM7.out.setBox 2 rfl 0 (.pointer (some ⟨w7.heap.size, 0, none⟩))).allocAt w7.heap.size (by simp) #[.slice ao g.objs.length co, .slice ar g.roots.length cr, .slice (some ⟨w6.heap.size, 0, none⟩) g.objs.length g.objs.length, .slice (some ⟨w1.heap.size + 1, 0, none⟩) g.objs.length g.objs.length] 83).pick0 [0, 1, 2, 3, 4] (by decide) rfl⟩
      case rest =>
        obtain ⟨Bp, Bt, gS, gF, rfl, hM⟩ := hcut
        have Hcount : Hid (∀ (T st : List Int) (l : List V) (u : Value) (W : World), T.length ≤ 1000 → IsVals w u l → (∀ v ∈ l, v ∈ allV g) → l.length ≤ 100 → Mem w.heap.size w W [ebox Bt #[.slice ao g.objs.length co, .slice ar g.roots.length cr, .slice (some ⟨gS, 0, none⟩) g.objs.length g.objs.length, .slice (some ⟨gF, 0, none⟩) g.objs.length g.objs.length] 83, rowI 3 (.slice (some ⟨gS, 0, none⟩) g.objs.length g.objs.length) (st), rowI 3 (.slice (some ⟨gF, 0, none⟩) g.objs.length g.objs.length) (cntL g.objs.length T), ebox Bp #[.pointer (some ⟨Bt, 0, none⟩)] 81, ebox w.heap.size #[.slice ao g.objs.length co, .slice ar g.roots.length cr] 25] →
            Calls Try.prog 51 #[u, .pointer (some ⟨Bp, 0, none⟩)] W fun e w' => e = .returned (.tuple #[]) ∧ Mem w.heap.size w w' [ebox Bt #[.slice ao g.objs.length co, .slice ar g.roots.length cr, .slice (some ⟨gS, 0, none⟩) g.objs.length g.objs.length, .slice (some ⟨gF, 0, none⟩) g.objs.length g.objs.length] 83, rowI 3 (.slice (some ⟨gS, 0, none⟩) g.objs.length g.objs.length) (st), rowI 3 (.slice (some ⟨gF, 0, none⟩) g.objs.length g.objs.length) (cntL g.objs.length (T ++ targets l)), ebox Bp #[.pointer (some ⟨Bt, 0, none⟩)] 81, ebox w.heap.size #[.slice ao g.objs.length co, .slice ar g.roots.length cr] 25]) := Lib.hid (by
          intro T st l u W hT hu hl hl4 hM
          exact callsIn_wide.1 (count_any (⟨g, w, .slice ao g.objs.length co, .slice ar g.roots.length cr, Bt, gS, gF⟩ : TryEnv) ⟨hG, Ho.out⟩ T hT st Bp [ebox w.heap.size #[.slice ao g.objs.length co, .slice ar g.roots.length cr] 25] l u hu hl hl4 W hM))
        have Htake : Hid (∀ (s : List Int × List Int) (x : Nat) (W : World), TryPre g s → x < g.objs.length → Mem w.heap.size w W [ebox Bt #[.slice ao g.objs.length co, .slice ar g.roots.length cr, .slice (some ⟨gS, 0, none⟩) g.objs.length g.objs.length, .slice (some ⟨gF, 0, none⟩) g.objs.length g.objs.length] 83, rowI 3 (.slice (some ⟨gS, 0, none⟩) g.objs.length g.objs.length) (s.1), rowI 3 (.slice (some ⟨gF, 0, none⟩) g.objs.length g.objs.length) (s.2), ebox Bp #[.pointer (some ⟨Bt, 0, none⟩)] 81, ebox w.heap.size #[.slice ao g.objs.length co, .slice ar g.roots.length cr] 25] →
            Calls Try.prog 53 #[.pointer (some ⟨Bt, 0, none⟩), .int .i64 (x : Int)] W fun e w' => ∃ s', e = .returned (.tuple #[]) ∧ TakeS g s s' [(x : Int)] (fun _ => 0) ∧ Mem w.heap.size w w' [ebox Bt #[.slice ao g.objs.length co, .slice ar g.roots.length cr, .slice (some ⟨gS, 0, none⟩) g.objs.length g.objs.length, .slice (some ⟨gF, 0, none⟩) g.objs.length g.objs.length] 83, rowI 3 (.slice (some ⟨gS, 0, none⟩) g.objs.length g.objs.length) (s'.1), rowI 3 (.slice (some ⟨gF, 0, none⟩) g.objs.length g.objs.length) (s'.2), ebox Bp #[.pointer (some ⟨Bt, 0, none⟩)] 81, ebox w.heap.size #[.slice ao g.objs.length co, .slice ar g.roots.length cr] 25]) := Lib.hid (by
          intro s x W hP hx hM
          refine (take_obj (⟨g, w, .slice ao g.objs.length co, .slice ar g.roots.length cr, Bt, gS, gF⟩ : TryEnv) ⟨hG, Ho.out⟩ s x W _ hP hx hM).mono ?_
          rintro e w' ⟨s', h1, h2, h3, _⟩
          exact ⟨s', h1, h2, h3⟩)
        have Hkeep : Hid (∀ (st F : List Int) (x : Nat) (W : World), st.length = g.objs.length → x < g.objs.length → Mem w.heap.size w W [ebox Bt #[.slice ao g.objs.length co, .slice ar g.roots.length cr, .slice (some ⟨gS, 0, none⟩) g.objs.length g.objs.length, .slice (some ⟨gF, 0, none⟩) g.objs.length g.objs.length] 83, rowI 3 (.slice (some ⟨gS, 0, none⟩) g.objs.length g.objs.length) (st), rowI 3 (.slice (some ⟨gF, 0, none⟩) g.objs.length g.objs.length) (F), ebox Bp #[.pointer (some ⟨Bt, 0, none⟩)] 81, ebox w.heap.size #[.slice ao g.objs.length co, .slice ar g.roots.length cr] 25] →
            Calls Try.prog 54 #[.pointer (some ⟨Bt, 0, none⟩), .int .i64 (x : Int)] W fun e w' => ∃ st', e = .returned (.tuple #[]) ∧ KeepT g st st' [(x : Int)] ∧ Mem w.heap.size w w' [ebox Bt #[.slice ao g.objs.length co, .slice ar g.roots.length cr, .slice (some ⟨gS, 0, none⟩) g.objs.length g.objs.length, .slice (some ⟨gF, 0, none⟩) g.objs.length g.objs.length] 83, rowI 3 (.slice (some ⟨gS, 0, none⟩) g.objs.length g.objs.length) (st'), rowI 3 (.slice (some ⟨gF, 0, none⟩) g.objs.length g.objs.length) (F), ebox Bp #[.pointer (some ⟨Bt, 0, none⟩)] 81, ebox w.heap.size #[.slice ao g.objs.length co, .slice ar g.roots.length cr] 25]) := Lib.hid (by
          intro st F x W hl hx hM
          refine (callsIn_wide.1 (keepT_all (⟨g, w, .slice ao g.objs.length co, .slice ar g.roots.length cr, Bt, gS, gF⟩ : TryEnv) ⟨hG, Ho.out⟩ _ st F x W _ hl (Nat.le_refl _) hx hM)).mono ?_
          rintro e w' ⟨st', h1, h2, h3, _⟩
          exact ⟨st', h1, h2, h3⟩)
        have h0 := Hcount.out [] (List.replicate g.objs.length 0) g.roots (.slice ar g.roots.length cr) wc (by simp) Hr.out (fun v hv => roots_all g v hv) (by have := hG.roots; omega) (by rw [cntL_nil]; exact hM)
        have H0 := Lib.hid h0
        have HG := Lib.hid hG
        obtain ⟨q0, q1⟩ := hM.cells2 4 rfl
        have HM := Lib.hid hM
        clear hM hG h0 p0 p1 z0 e3 e4 e5 e6 e7 z3 z4 z5 z6 z7 c5 c7 f5 f7 g5 g7 hr1 hr2 hr3 hr4 hr5 HM4 HM5 HM7 Hsame Hset HM1
        go_wp2_with fail
        refine H0.out.mono ?_
        rintro e w2 ⟨rfl, hM2⟩
        obtain ⟨q2, q3⟩ := hM2.cells2 4 rfl
        have hM3 : Mem w.heap.size w w2 [ebox Bt #[.slice ao g.objs.length co, .slice ar g.roots.length cr, .slice (some ⟨gS, 0, none⟩) g.objs.length g.objs.length, .slice (some ⟨gF, 0, none⟩) g.objs.length g.objs.length] 83, rowI 3 (.slice (some ⟨gS, 0, none⟩) g.objs.length g.objs.length) (List.replicate g.objs.length 0), rowI 3 (.slice (some ⟨gF, 0, none⟩) g.objs.length g.objs.length) (cntL g.objs.length (targets (g.roots ++ (g.objs.take 0).flatten))), ebox Bp #[.pointer (some ⟨Bt, 0, none⟩)] 81, ebox w.heap.size #[.slice ao g.objs.length co, .slice ar g.roots.length cr] 25] := by simpa using hM2
        clear hM2 H0 HM
        go_wp2
        go_loopw [63] (fun iv wr => ∃ k : Nat, k ≤ g.objs.length ∧ iv = .int .i64 k ∧ Mem w.heap.size w wr [ebox Bt #[.slice ao g.objs.length co, .slice ar g.roots.length cr, .slice (some ⟨gS, 0, none⟩) g.objs.length g.objs.length, .slice (some ⟨gF, 0, none⟩) g.objs.length g.objs.length] 83, rowI 3 (.slice (some ⟨gS, 0, none⟩) g.objs.length g.objs.length) (List.replicate g.objs.length 0), rowI 3 (.slice (some ⟨gF, 0, none⟩) g.objs.length g.objs.length) (cntL g.objs.length (targets (g.roots ++ (g.objs.take k).flatten))), ebox Bp #[.pointer (some ⟨Bt, 0, none⟩)] 81, ebox w.heap.size #[.slice ao g.objs.length co, .slice ar g.roots.length cr] 25]) (fun iv _ => g.objs.length - (intOf iv).toNat)
        case atStart => exact ⟨0, Nat.zero_le _, rfl, hM3⟩
        case round =>
          clear hM3 q0 q1 q2 q3
          obtain ⟨k, hk, rfl, hM⟩ := hrel
          by_cases hlt : k < g.objs.length
          · obtain ⟨ob, hob⟩ := get_some _ _ hlt
            obtain ⟨b, off, cap2, uo, hv, hb, hb2, d1, huo⟩ := Ho.out.at hM.below hob
            cases hv
            obtain ⟨au2, cu2, rfl, hlu2⟩ := huo.slice
            obtain ⟨q0, q1⟩ := hM.cells2 4 rfl
            have hTl : (targets (g.roots ++ (g.objs.take k).flatten)).length ≤ 1000 := by
              have h1 := allV_len HG.out
              have h2 : targets (allV g) = targets (g.roots ++ (g.objs.take k).flatten) ++ targets (g.objs.drop k).flatten := by
                unfold allV
                rw [← targets_append, List.append_assoc, ← List.flatten_append, List.take_append_drop]
              rw [h2, List.length_append] at h1
              omega
            have hc := Hcount.out _ _ ob (.slice au2 ob.length cu2) _ hTl huo (fun v hv => List.mem_append_right _ (List.mem_flatten.2 ⟨ob, List.mem_of_getElem? hob, hv⟩)) (by have := HG.out.fields ob (List.mem_of_getElem? hob); omega) (hM.alloc_ (.cells #[.slice au2 ob.length cu2] 52))
            have Hc := Lib.hid hc
            have Hst : Hid (targets (g.roots ++ (g.objs.take k).flatten) ++ targets ob = targets (g.roots ++ (g.objs.take (k + 1)).flatten)) := Lib.hid (by rw [take_succ_some _ _ _ hob, List.flatten_append, ← List.append_assoc, targets_append (_ ++ _)]; simp)
            have HM := Lib.hid hM
            clear hc hM hob huo hTl
            go_wp2_with fail
            refine Hc.out.mono ?_
            rintro e w3 ⟨rfl, hM4⟩
            rw [Hst.out] at hM4
            have HM4 := Lib.hid hM4
            clear hM4
            go_wp2
            go_roundw
            case rel => exact ⟨k + 1, by omega, by go_num, HM4.out⟩
            case measure => simp [intOf]; omega
          · obtain rfl : k = g.objs.length := by omega
            rw [List.take_length] at hM
            have hM5 : Mem w.heap.size w wr [ebox Bt #[.slice ao g.objs.length co, .slice ar g.roots.length cr, .slice (some ⟨gS, 0, none⟩) g.objs.length g.objs.length, .slice (some ⟨gF, 0, none⟩) g.objs.length g.objs.length] 83, rowI 3 (.slice (some ⟨gS, 0, none⟩) g.objs.length g.objs.length) (List.replicate g.objs.length 0), rowI 3 (.slice (some ⟨gF, 0, none⟩) g.objs.length g.objs.length) (cntL g.objs.length (targets (allV g))), ebox Bp #[.pointer (some ⟨Bt, 0, none⟩)] 81, ebox w.heap.size #[.slice ao g.objs.length co, .slice ar g.roots.length cr] 25] := hM
            have hT0 : TakeS g (List.replicate g.objs.length 0, cntL g.objs.length (targets (allV g))) (List.replicate g.objs.length 0, cntL g.objs.length (targets (allV g))) [] (fun _ => 0) := TakeS.nil _ _
            clear hM
            go_wp2
            go_loopw [74] (fun iv wr => ∃ (k : Nat) (s : List Int × List Int), k ≤ N ∧ iv = .int .i64 k ∧ TakeS g (List.replicate g.objs.length 0, cntL g.objs.length (targets (allV g))) s (fr.take k) (fun _ => 0) ∧ Mem w.heap.size w wr [ebox Bt #[.slice ao g.objs.length co, .slice ar g.roots.length cr, .slice (some ⟨gS, 0, none⟩) g.objs.length g.objs.length, .slice (some ⟨gF, 0, none⟩) g.objs.length g.objs.length] 83, rowI 3 (.slice (some ⟨gS, 0, none⟩) g.objs.length g.objs.length) (s.1), rowI 3 (.slice (some ⟨gF, 0, none⟩) g.objs.length g.objs.length) (s.2), ebox Bp #[.pointer (some ⟨Bt, 0, none⟩)] 81, ebox w.heap.size #[.slice ao g.objs.length co, .slice ar g.roots.length cr] 25]) (fun iv _ => N - (intOf iv).toNat)
            case atStart => exact ⟨0, _, Nat.zero_le _, rfl, hT0, hM5⟩
            case round =>
              clear hM5 hT0
              obtain ⟨k, s, hk, rfl, hT, hM⟩ := hrel
              have p0 : wr.cell? ⟨Bp, 0, none⟩ = some (.pointer (some ⟨Bt, 0, none⟩)) := by have := hM.cell 3 rfl 0; simpa using this
              by_cases hlt : k < N
              · obtain ⟨x, hx⟩ := get_some fr k (by rw [HN.out]; exact hlt)
                obtain ⟨bx, ox, cx, hv, hbx, hnx, c1, _⟩ := Hu.out.at hM.below hx
                rw [HN.out] at hv
                cases hv
                have hxk := Hf.out x (List.mem_of_getElem? hx)
                obtain ⟨i, rfl⟩ : ∃ i : Nat, x = (i : Int) := ⟨x.toNat, by omega⟩
                have hP := tryPre_of HG.out hT
                have Hc := Lib.hid (Htake.out s i wr hP (by omega) hM)
                have HS := Lib.hid (take_succ_some _ _ _ hx)
                have HT := Lib.hid hT
                clear hP hx hT hM hxk
                go_wp2_with fail
                refine Hc.out.mono ?_
                rintro e w3 ⟨s', rfl, hT2, hM4⟩
                have HT2 := Lib.hid (HT.out.app hT2)
                have HM4 := Lib.hid hM4
                clear hM4 hT2
                go_wp2
                go_roundw
                case rel => exact ⟨k + 1, s', by omega, by go_num, by rw [HS.out]; exact HT2.out, HM4.out⟩
                case measure => simp [intOf]; omega
              · obtain rfl : N = k := by omega
                rw [List.take_of_length_le (by rw [HN.out]; exact Nat.le_refl _)] at hT
                have hl1 : s.1.length = g.objs.length := by rw [hT.len]; simp
                have hl2 : s.2.length = g.objs.length := by rw [hT.lenF]; simp [cntL_len]
                have Hl1 := Lib.hid hl1
                have Hl2 := Lib.hid hl2
                have HT := Lib.hid hT
                have c3 : wr.cell? ⟨Bt, 3, none⟩ = some (.slice (some ⟨gF, 0, none⟩) g.objs.length g.objs.length) := by have := hM.cell 0 rfl 3; simpa using this
                have HM := Lib.hid hM
                clear hl1 hl2 hT hM
                go_wp2
                go_loopw [87] (fun iv wr => ∃ (k : Nat) (st : List Int), k ≤ g.objs.length ∧ iv = .int .i64 k ∧ KeepT g s.1 st (posTo s.2 k) ∧ Mem w.heap.size w wr [ebox Bt #[.slice ao g.objs.length co, .slice ar g.roots.length cr, .slice (some ⟨gS, 0, none⟩) g.objs.length g.objs.length, .slice (some ⟨gF, 0, none⟩) g.objs.length g.objs.length] 83, rowI 3 (.slice (some ⟨gS, 0, none⟩) g.objs.length g.objs.length) (st), rowI 3 (.slice (some ⟨gF, 0, none⟩) g.objs.length g.objs.length) (s.2), ebox Bp #[.pointer (some ⟨Bt, 0, none⟩)] 81, ebox w.heap.size #[.slice ao g.objs.length co, .slice ar g.roots.length cr] 25]) (fun iv _ => g.objs.length - (intOf iv).toNat)
                case atStart => exact ⟨0, s.1, Nat.zero_le _, rfl, KeepT.nil _ _, HM.out⟩
                case round =>
                  clear p0 c3 HM
                  obtain ⟨k, st, hk, rfl, hK, hM⟩ := hrel
                  have p0 : wr.cell? ⟨Bp, 0, none⟩ = some (.pointer (some ⟨Bt, 0, none⟩)) := by have := hM.cell 3 rfl 0; simpa using this
                  have hlst : st.length = g.objs.length := by rw [hK.len]; exact Hl1.out
                  by_cases hlt : k < g.objs.length
                  · obtain ⟨y, hy⟩ := get_some s.2 k (by rw [Hl2.out]; exact hlt)
                    obtain ⟨c4, _⟩ := hM.intAt 2 rfl hy
                    have hsc := posTo_succ s.2 k
                    rw [show s.2.getD k 0 = y from by rw [List.getD_eq_getElem?_getD, hy]; rfl] at hsc
                    have Hsc := Lib.hid hsc
                    have HK := Lib.hid hK
                    have Hc := Lib.hid (Hkeep.out st s.2 k wr hlst hlt hM)
                    have HM := Lib.hid hM
                    clear hy hsc hK hM hlst
                    rcases hy0 : decide (0 < y) with _ | _
                    · have Hn := Lib.hid (show ¬ 0 < y by simpa using hy0)
                      go_wp2
                      go_roundw
                      case rel => exact ⟨k + 1, st, by omega, by go_num, by rw [Hsc.out, if_neg Hn.out, List.append_nil]; exact HK.out, HM.out⟩
                      case measure => simp [intOf]; omega
                    · have Hn := Lib.hid (show 0 < y by simpa using hy0)
                      go_wp2_with fail
                      refine Hc.out.mono ?_
                      rintro e w3 ⟨st', rfl, hK2, hM4⟩
                      have HK2 := Lib.hid (HK.out.trans hK2)
                      have HM4 := Lib.hid hM4
                      clear hM4 hK2
                      go_wp2
                      go_roundw
                      case rel => exact ⟨k + 1, st', by omega, by go_num, by rw [Hsc.out, if_pos Hn.out]; exact HK2.out, HM4.out⟩
                      case measure => simp [intOf]; omega
                  · obtain rfl : k = g.objs.length := by omega
                    have c2 : wr.cell? ⟨Bt, 2, none⟩ = some (.slice (some ⟨gS, 0, none⟩) g.objs.length g.objs.length) := by have := hM.cell 0 rfl 2; simpa using this
                    have HK := Lib.hid hK
                    have Hls := Lib.hid hlst
                    have hM6 := hM.nilI 3
                    have HM6 := Lib.hid hM6
                    clear hK hlst hM hM6
                    go_wp2
                    go_loopw [17, 103] (fun lv iv wr => ∃ k : Nat, k ≤ g.objs.length ∧ iv = .int .i64 k ∧ Mem w.heap.size w wr (rowI 3 lv (onTo st k) :: [ebox Bt #[.slice ao g.objs.length co, .slice ar g.roots.length cr, .slice (some ⟨gS, 0, none⟩) g.objs.length g.objs.length, .slice (some ⟨gF, 0, none⟩) g.objs.length g.objs.length] 83, rowI 3 (.slice (some ⟨gS, 0, none⟩) g.objs.length g.objs.length) (st), rowI 3 (.slice (some ⟨gF, 0, none⟩) g.objs.length g.objs.length) (s.2), ebox Bp #[.pointer (some ⟨Bt, 0, none⟩)] 81, ebox w.heap.size #[.slice ao g.objs.length co, .slice ar g.roots.length cr] 25])) (fun _ iv _ => g.objs.length - (intOf iv).toNat)
                    case atStart => exact ⟨0, Nat.zero_le _, rfl, HM6.out⟩
                    case round =>
                      clear p0 c2 HM6
                      obtain ⟨k, hk, rfl, hM⟩ := hrel
                      by_cases hlt : k < g.objs.length
                      · obtain ⟨y, hy⟩ := get_some st k (by rw [Hls.out]; exact hlt)
                        obtain ⟨c4, _⟩ := hM.intAt 2 rfl hy
                        have hsc := onTo_succ st k
                        rw [show st.getD k 0 = y from by rw [List.getD_eq_getElem?_getD, hy]; rfl] at hsc
                        have Hsc := Lib.hid hsc
                        have hln := onTo_len st k
                        have HM := Lib.hid hM
                        clear hy hsc hM
                        rcases hy0 : (y == 1) with _ | _
                        · have Hn := Lib.hid (show ¬ (y == 1) = true by rw [hy0]; decide)
                          go_wp2
                          go_roundw
                          case rel => exact ⟨k + 1, by omega, by go_num, HM.out.cast (by rw [Hsc.out, if_neg Hn.out, List.append_nil])⟩
                          case measure => simp [intOf]; omega
                        · have Hn := Lib.hid hy0
                          go_wp2_with (at_builtin; refine Mem.wp_appI elemInts rfl (.tmp 110) (.tmp 112) rfl HM.out 0 rfl rfl _ (k : Int) _ _ rfl (by simp) (by omega) ?_; intro ad n1 cp w2 hn1 hM3 hs1 hk1 ha1)
                          go_roundw
                          case rel => exact ⟨k + 1, by omega, by go_num, hM3.cast (by rw [Hsc.out, if_pos Hn.out]; rfl)⟩
                          case measure => simp [intOf]; omega
                      · obtain rfl : k = g.objs.length := by omega
                        have HM := Lib.hid (hM.pick0 (A' := [rowI 3 _ (onTo st g.objs.length)]) [0] (by decide) rfl)
                        have HR := Lib.hid (trialS_of HG.out Hf.out HT.out HK.out)
                        clear hM
                        go_wp2
                        go_ret2
                        exact ⟨_, _, rfl, HR.out, HM.out⟩
end Go.Proofs.Ytdmgpiimacnapaa
