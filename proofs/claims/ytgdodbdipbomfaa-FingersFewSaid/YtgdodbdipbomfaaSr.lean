/- ragpickerref.pair and Same, walked where one graph is the other, relabelled. -/
import Derived.Test.YtgdodbdipbomfaaBase3
import Derived.Deep.QuietTactic
import Derived.StillTailTactics
namespace Go.Proofs.Ytgdodbdipbomfaa
open Go.RowKit Go.Shelf

theorem Lab.has {L F : List Int} {p : Int → Int} (h : Lab L p) (hF : Paired L F) {x : Int} (hx : x ∈ L) : hasB (F.map p) (p x) = hasB F x := by
  unfold hasB
  rw [decide_eq_decide]
  constructor
  · intro hm
    obtain ⟨y, hy, he⟩ := List.mem_map.1 hm
    have := h.inj y (hF.sub y hy) x hx he
    exact this ▸ hy
  · intro hm
    exact List.mem_map.2 ⟨x, hm, rfl⟩

theorem has_q (v : Value) (l : List Int) (x : Int) (b : Bool) (w : World) (hl : IsInts w v l) (hb : hasB l x = b) (n : Nat) :
    Calls Try.prog 18 #[v, .int .i64 x] (w.drewN n) fun e w' => e = .returned (.bool b) ∧ ∃ m, w' = (w.drewN n).drewN m := by
  subst hb
  exact (has_any v l x (w.drewN n) (hl.later ⟨rfl, rfl, rfl, Nat.le_refl _, fun _ _ => rfl⟩)).mono fun _ _ ⟨h1, h2⟩ => ⟨h1, 0, h2.symm⟩
/-- .. behind a region that has drawn. -/
theorem Calls.quiet_add {P : Program} {f : FuncId} {args : Array Value} {w : World} {a b : Nat} {v : Value}
    (h : ∀ n, Calls P f args (w.drewN n) fun e w' => e = .returned v ∧ ∃ m, w' = (w.drewN n).drewN m) : Calls P f args (w.drewN (a + b)) fun e w'' => e = .returned v ∧ ∃ n, w'' = w.drewN (a + n) :=
  (h (a + b)).mono fun _ _ ⟨he, m, hm⟩ => ⟨he, b + m, by rw [hm, World.drewN_drewN, Nat.add_assoc]⟩
theorem place_q (v : Value) (l : List Int) (x : Int) (i : Nat) (w : World) (hl : IsInts w v l) (hb : plc l x 0 = (i : Int)) (n : Nat) :
    Calls Try.prog 79 #[v, .int .i64 x] (w.drewN n) fun e w' => e = .returned (.int .i64 i) ∧ ∃ m, w' = (w.drewN n).drewN m := by
  have h := place_any v l x (w.drewN n) (hl.later ⟨rfl, rfl, rfl, Nat.le_refl _, fun _ _ => rfl⟩)
  rw [hb] at h
  exact h.mono fun _ _ ⟨h1, h2⟩ => ⟨h1, 0, h2.symm⟩

set_option maxRecDepth 100000 in
set_option maxHeartbeats 2000000 in
theorem pair_iso (L : List Int) (p : Int → Int) (hLab : Lab L p) (w0 : World) (u v : Value) (a : List V) (hu : IsVals w0 u a) (hv : IsVals w0 v (a.map (turnV p))) (hlen : a.length ≤ 1000) (hT : ∀ j ∈ targets a, j ∈ L)
    (bf bt : Nat) (vf vt : Value) (F0 : List Int) (hF : Paired L F0) (R : List Ent) (w : World) (hM : Mem w0.heap.size w0 w ([ebox bf #[vf] 26, rowI 3 vf F0, ebox bt #[vt] 26, rowI 3 vt (F0.map p)] ++ R)) :
    Calls Try.prog 83 #[u, v, .pointer (some ⟨bf, 0, none⟩), .pointer (some ⟨bt, 0, none⟩)] w fun e w' => e = .returned (.bool true) ∧
      ∃ vf vt F, F0.length ≤ F.length ∧ Paired L F ∧ Mem w0.heap.size w0 w' ([ebox bf #[vf] 26, rowI 3 vf F, ebox bt #[vt] 26, rowI 3 vt (F.map p)] ++ R) := by
  obtain ⟨au, cu, rfl, hlu⟩ := hu.slice
  obtain ⟨av, cv, rfl, hlv⟩ := hv.slice
  obtain ⟨b, hb⟩ : ∃ b, b = a.map (turnV p) := ⟨_, rfl⟩
  have hab : (b.length : Int) = a.length := by rw [hb, List.length_map]
  have hgetb : ∀ (k : Nat) (x : V), a[k]? = some x → b[k]? = some (turnV p x) := by intro k x h; rw [hb, List.getElem?_map, h]; rfl
  rw [← hb] at hv hlv ⊢
  have Hu := Lib.hid hu
  have Hv := Lib.hid hv
  have HT := Lib.hid hT
  have Hg := Lib.hid hgetb
  have HF := Lib.hid hF
  have HL := Lib.hid hLab
  clear hu hv hT hgetb hF hb hLab
  go_enter Try.func83, Try.ntmps83
  go_wp2
  clear hab
  go_loopw [9] (fun i wr => ∃ (k : Nat) (vf vt : Value) (F : List Int), k ≤ a.length ∧ i = .int .i64 k ∧ F0.length ≤ F.length ∧ Paired L F ∧
      Mem w0.heap.size w0 wr ([ebox bf #[vf] 26, rowI 3 vf F, ebox bt #[vt] 26, rowI 3 vt (F.map p)] ++ R)) (fun i _ => a.length - (intOf i).toNat)
  case atStart => exact ⟨0, vf, vt, F0, Nat.zero_le _, rfl, Nat.le_refl _, HF.out, hM⟩
  case round =>
    clear HF hM
    obtain ⟨k, vf, vt, F, hk, rfl, hgr, hF, hM⟩ := hrel
    have HGr := Lib.hid hgr
    clear hgr
    by_cases hlt : k < a.length
    · obtain ⟨x, hx⟩ := get_some _ _ hlt
      obtain ⟨bu, ou, cap2, hv, hb, hn, c1, c2, _⟩ := Hu.out.at hM.below hx
      cases hv
      obtain ⟨bv, ov, cap3, hv, hb3, hn3, d1, d2, _⟩ := Hv.out.at hM.below (Hg.out k x hx)
      have hltb := (List.getElem?_eq_some_iff.1 (Hg.out k x hx)).1
      cases hv
      have Hmem := Lib.hid (List.mem_of_getElem? hx)
      clear hx
      obtain ⟨r, n⟩ := x
      cases r
      · have e1 : (turnV p ⟨false, n⟩).ref = false := rfl
        have e2 : (turnV p ⟨false, n⟩).n = n := rfl
        rw [e1] at d1
        rw [e2] at d2
        clear e1 e2
        have HM := Lib.hid hM
        clear hM
        go_wp2
        go_quiet (fail)
        go_wp2
        go_roundw
        case rel => exact ⟨k + 1, vf, vt, F, by omega, by go_num, HGr.out, hF, HM.out.drewN _⟩
        case measure => simp [intOf]; omega
      · have e1 : (turnV p ⟨true, n⟩).ref = true := rfl
        have e2 : (turnV p ⟨true, n⟩).n = p n := rfl
        rw [e1] at d1
        rw [e2] at d2
        clear e1 e2
        have hnL : n ∈ L := HT.out n (mem_targets Hmem.out rfl)
        obtain ⟨m, hm⟩ : ∃ m, p n = m := ⟨_, rfl⟩
        rw [hm] at d2
        have hle := hF.le
        have hLlen := HL.out.len
        have hFi : IsInts wr vf F := isInts_of_own (hM.ownI 1 rfl) (by omega) (fun x hx => (HL.out.ok x (hF.sub x hx)).1)
        have hTi : IsInts wr vt (F.map p) := isInts_of_own (hM.ownI 3 rfl) (by rw [List.length_map]; omega) (fun x hx => by obtain ⟨y, hy, rfl⟩ := List.mem_map.1 hx; exact (HL.out.ok y (hF.sub y hy)).2)
        have hhas := HL.out.has hF hnL
        rw [hm] at hhas
        obtain ⟨T, hTT⟩ : ∃ T, F.map p = T := ⟨_, rfl⟩
        have hlT0 : T.length = F.length := by rw [← hTT, List.length_map]
        rw [hTT] at hM hTi hhas
        have p0 : wr.cell? ⟨bf, 0, none⟩ = some vf := by have := hM.cell 0 rfl 0; simpa using this
        have p1 : wr.cell? ⟨bt, 0, none⟩ = some vt := by have := hM.cell 2 rfl 0; simpa using this
        have z0 : bf < wr.heap.size := (hM.box 0 rfl).2.1
        have z1 : bt < wr.heap.size := (hM.box 2 rfl).2.1
        obtain ⟨aF, nF, cF, rfl⟩ := hM.isSlice 1 rfl
        obtain ⟨aT, nT, cT, rfl⟩ := hM.isSlice 3 rfl
        by_cases hin : n ∈ F
        · have Q1 := Lib.hid (has_q _ F n true wr hFi (by simp [hasB, hin]))
          have Q2 := Lib.hid (has_q _ T m true wr hTi (by rw [hhas]; simp [hasB, hin]))
          obtain ⟨i, hi, hpl⟩ := plc_mem F n 0 hin
          rw [Nat.zero_add] at hpl
          have Q3 := Lib.hid (place_q _ F n i wr hFi hpl)
          have hti : T[i]? = some m := by rw [← hTT, List.getElem?_map, hi, ← hm]; rfl
          have Hyes := Lib.hid (fun k => has_yes _ F n (wr.drewN k) (hFi.later ⟨rfl, rfl, rfl, Nat.le_refl _, fun _ _ => rfl⟩) hin)
          obtain ⟨bT, oT, cap5, hv, hb5, hn5, g1, _⟩ := hTi.at (Below.refl _ _) hti
          have hiT := (List.getElem?_eq_some_iff.1 hti).1
          cases hv
          have HM := Lib.hid hM
          have HFF := Lib.hid hF
          have Hm := Lib.hid hm
          have HTT := Lib.hid hTT
          clear hM hF hhas hFi hTi hi hpl hti hm hin hTT hlT0
          go_wp2
          go_quiet (first | (with_reducible exact Calls.quiet_of (Q1.out _)) | (with_reducible exact Calls.quiet_of (Q2.out _)))
          go_wp2_with fail
          refine (Hyes.out _).mono ?_
          rintro e w1 ⟨rfl, rfl⟩
          go_wp2
          go_quiet (with_reducible exact Calls.quiet_add Q3.out)
          go_wp2
          go_roundw
          case rel =>
            obtain rfl : T = F.map p := HTT.out.symm
            exact ⟨k + 1, _, _, F, by omega, by go_num, HGr.out, HFF.out, HM.out.drewN _⟩
          case measure => simp [intOf]; omega
        · have Q1 := Lib.hid (has_q _ F n false wr hFi (by simp [hasB, hin]))
          have Q2 := Lib.hid (has_q _ T m false wr hTi (by rw [hhas]; simp [hasB, hin]))
          have Hno := Lib.hid (fun k => has_no _ F n (wr.drewN k) (hFi.later ⟨rfl, rfl, rfl, Nat.le_refl _, fun _ _ => rfl⟩) hin)
          have hF2 := hF.snoc hnL hin
          have hF2i : ∀ x ∈ F ++ [n], i64ok x := fun x hx => (HL.out.ok x (hF2.sub x hx)).1
          have hF2j : ∀ x ∈ T ++ [m], i64ok x := by
            intro x hx
            have e : T ++ [m] = (F ++ [n]).map p := by simp [hm, ← hTT]
            rw [e] at hx
            obtain ⟨y, hy, rfl⟩ := List.mem_map.1 hx
            exact (HL.out.ok y (hF2.sub y hy)).2
          have hlF : F.length ≤ 1000000 := by omega
          have hlT : T.length ≤ 1000000 := by omega
          have hlF1 : (F ++ [n]).length ≤ 1000000 := by simp; omega
          have hlT1 : (T ++ [m]).length ≤ 1000000 := by simp; omega
          have hpl : plc (F ++ [n]) n 0 = (F.length : Int) := by
            rw [plc_get (F ++ [n]) n 0 F.length (by simp) ?_, Nat.zero_add]
            intro j hj e
            rw [List.getElem?_append_left hj] at e
            exact hin (List.mem_of_getElem? e)
          have hti : (T ++ [m])[F.length]? = some m := by
            rw [List.getElem?_append_right (by omega)]; simp [hlT0]
          have hFlt : F.length < (T ++ [m]).length := by simp; omega
          obtain ⟨F2, hFF2⟩ : ∃ F2, F ++ [n] = F2 := ⟨_, rfl⟩
          obtain ⟨T2, hTT2⟩ : ∃ T2, T ++ [m] = T2 := ⟨_, rfl⟩
          have HFF2 := Lib.hid hFF2
          have HTT2 := Lib.hid hTT2
          have HTT := Lib.hid hTT
          rw [hFF2] at hF2 hF2i hlF1 hpl
          rw [hTT2] at hF2j hlT1 hti hFlt
          have HM := Lib.hid hM
          have HFF := Lib.hid hF2
          have HF2i := Lib.hid hF2i
          have HF2j := Lib.hid hF2j
          have Hpl := Lib.hid hpl
          have Hti := Lib.hid hti
          have Hm := Lib.hid hm
          have HlF := Lib.hid hlF
          have HlT := Lib.hid hlT
          have HlF1 := Lib.hid hlF1
          have HlT1 := Lib.hid hlT1
          have HFlt := Lib.hid hFlt
          clear hM hF hF2 hF2i hF2j hhas hFi hTi hm hin hpl hti hlF hlT hlF1 hlT1 hFlt hFF2 hTT2 hTT hlT0
          go_wp2
          go_quiet (first | (with_reducible exact Calls.quiet_of (Q1.out _)) | (with_reducible exact Calls.quiet_of (Q2.out _)))
          go_wp2_with fail
          refine (Hno.out _).mono ?_
          rintro e w1 ⟨rfl, rfl⟩
          go_wp2_with (first
            | (at_builtin; refine Mem.wp_appI elemInts rfl (.tmp 76) (.tmp 78) rfl (HM.out.drewN _) 1 rfl rfl _ n _ _ rfl (by simp) HlF.out ?_; intro ad n1 cp w1 hn1 hM3 hs1 hk1 ha1
               rw [HFF2.out] at hM3
               have u0 : w1.cell? ⟨bf, 0, none⟩ = some (.slice aF nF cF) := by have := hM3.cell 0 rfl 0; simpa using this
               have u1 : w1.frozen? ⟨bf, 0, none⟩ = false := hM3.free 0 rfl 0
               have hM4 := hM3.setBox 0 rfl 0 (.slice ad n1 cp)
               have u2 : (w1.setCell ⟨bf, 0, none⟩ (.slice ad n1 cp)).cell? ⟨bt, 0, none⟩ = some (.slice aT nT cT) := by have := hM4.cell 2 rfl 0; simpa using this
               have HM4 := Lib.hid hM4
               clear hM3 hM4 hk1)
            | (at_builtin; refine Mem.wp_appI elemInts rfl (.tmp 84) (.tmp 86) rfl HM4.out 3 rfl rfl _ m _ _ rfl (by simp) HlT.out ?_; intro ad2 n2 cp2 w2 hn2 hM5 hs2 hk2 ha2
               rw [HTT2.out] at hM5
               have v0 : w2.cell? ⟨bt, 0, none⟩ = some (.slice aT nT cT) := by have := hM5.cell 2 rfl 0; simpa using this
               have v1 : w2.frozen? ⟨bt, 0, none⟩ = false := hM5.free 2 rfl 0
               have hM6 := hM5.setBox 2 rfl 0 (.slice ad2 n2 cp2)
               have v2 : (w2.setCell ⟨bt, 0, none⟩ (.slice ad2 n2 cp2)).cell? ⟨bf, 0, none⟩ = some (.slice ad n1 cp) := by have := hM6.cell 0 rfl 0; simpa using this
               have v3 : (w2.setCell ⟨bt, 0, none⟩ (.slice ad2 n2 cp2)).cell? ⟨bt, 0, none⟩ = some (.slice ad2 n2 cp2) := by have := hM6.cell 2 rfl 0; simpa using this
               have Q3 := Lib.hid (place_q _ _ n F.length _ (isInts_of_own (hM6.ownI 1 rfl) HlF1.out HF2i.out) Hpl.out)
               obtain ⟨bT, oT, cap5, hv, hb5, hn5, g1, _⟩ := (isInts_of_own (hM6.ownI 3 rfl) HlT1.out HF2j.out).at (Below.refl _ _) Hti.out
               have hiT := HFlt.out
               have HM6 := Lib.hid hM6
               cases hv
               clear hM5 hM6 hk2 hn2))
          go_quiet (with_reducible exact Calls.quiet_of (Q3.out _))
          go_wp2
          go_roundw
          case rel =>
            obtain rfl : T2 = F2.map p := by rw [← HTT2.out, ← HFF2.out, ← HTT.out, ← Hm.out]; simp
            exact ⟨k + 1, _, _, F2, by omega, by go_num, by rw [← HFF2.out]; have := HGr.out; simp; omega, HFF.out, HM6.out.drewN _⟩
          case measure => simp [intOf]; omega
    · obtain rfl : k = a.length := by omega
      go_wp2
      go_ret
      exact ⟨rfl, vf, vt, F, HGr.out, hF, hM⟩

theorem IsVals.of_eq {w : World} {v : Value} {l l' : List V} (h : IsVals w v l) (e : l = l') : IsVals w v l' := e ▸ h
theorem paired_nil (L : List Int) : Paired L [] := ⟨by simp, by simp⟩
set_option maxRecDepth 100000 in
set_option maxHeartbeats 2000000 in
/-- The reference's Same, of a graph and what it is relabelled to. -/
theorem sameF_iso (g h : G) (L : List Int) (p : Int → Int) (I : Iso g h L p) (hLab : Lab L p) (hG : Fits g) (u v : Value) (w : World) (hu : IsGraph w u g) (hv : IsGraph w v h) :
    Calls Try.prog 54 #[u, v] w fun e w' => e = .returned (.bool true) ∧ Below w.heap.size w w' := by
  obtain ⟨uo, ur, rfl, huo, hur⟩ := hu
  obtain ⟨vo, vr, rfl, hvo, hvr⟩ := hv
  obtain ⟨a1, c1, rfl, _⟩ := huo.slice
  obtain ⟨a2, c2, rfl, _⟩ := hur.slice
  obtain ⟨a3, c3, rfl, _⟩ := hvo.slice
  obtain ⟨a4, c4, rfl, _⟩ := hvr.slice
  have Huo := Lib.hid huo
  have Hur := Lib.hid hur
  have Hvo := Lib.hid hvo
  have Hvr := Lib.hid hvr
  have HI := Lib.hid I
  have HL := Lib.hid hLab
  have hM0 := ((((Mem.start w).alloc #[.slice a1 g.objs.length c1, .slice a2 g.roots.length c2] 36).allocAt (w.heap.size + 1) (by simp) #[.slice a3 h.objs.length c3, .slice a4 h.roots.length c4] 36).allocAt (w.heap.size + 1 + 1) (by simp) #[.slice none 0 0] 26).allocAt (w.heap.size + 1 + 1 + 1) (by simp) #[.slice none 0 0] 26
  have hM1 := ((hM0.nilI 3).nilI 3).pick0 ([3, 0, 2, 1] ++ [4, 5]) (A' := [ebox (w.heap.size + 1 + 1) #[.slice none 0 0] 26, rowI 3 (.slice none 0 0) [], ebox (w.heap.size + 1 + 1 + 1) #[.slice none 0 0] 26, rowI 3 (.slice none 0 0) (([] : List Int).map p)] ++ [ebox (w.heap.size + 1) #[.slice a3 h.objs.length c3, .slice a4 h.roots.length c4] 36, ebox w.heap.size #[.slice a1 g.objs.length c1, .slice a2 g.roots.length c2] 36]) (by decide) rfl
  clear huo hur hvo hvr I hLab hM0
  go_enter Try.func54, Try.ntmps54
  go_wp2_with fail
  refine (pair_iso L p HL.out w _ _ g.roots Hur.out (Hvr.out.of_eq HI.out.roots) (by have := hG.roots; omega) HI.out.rootsL _ _ _ _ [] (paired_nil L) _ _ hM1).mono ?_
  rintro e w1 ⟨rfl, vf, vt, F, _, hF, hM2⟩
  clear hM1
  go_wp2
  go_loopw [7, 8] (fun b i wr => ∃ (k : Nat) (vf vt : Value) (F : List Int), b = .bool true ∧ i = .int .i64 k ∧ k ≤ F.length ∧ Paired L F ∧
      Mem w.heap.size w wr ([ebox (w.heap.size + 1 + 1) #[vf] 26, rowI 3 vf F, ebox (w.heap.size + 1 + 1 + 1) #[vt] 26, rowI 3 vt (F.map p)] ++ [ebox (w.heap.size + 1) #[.slice a3 h.objs.length c3, .slice a4 h.roots.length c4] 36, ebox w.heap.size #[.slice a1 g.objs.length c1, .slice a2 g.roots.length c2] 36]))
      (fun _ i _ => L.length - (intOf i).toNat)
  case atStart => exact ⟨0, vf, vt, F, rfl, rfl, Nat.zero_le _, hF, hM2⟩
  case round =>
    clear hF hM2
    obtain ⟨k, vf, vt, F, rfl, rfl, hk, hF, hM⟩ := hrel
    have hle := hF.le
    have hLlen := HL.out.len
    obtain ⟨T, hTT⟩ : ∃ T, F.map p = T := ⟨_, rfl⟩
    have hlT0 : T.length = F.length := by rw [← hTT, List.length_map]
    have hFi : IsInts wr vf F := isInts_of_own (hM.ownI 1 rfl) (by omega) (fun x hx => (HL.out.ok x (hF.sub x hx)).1)
    have hTi : IsInts wr vt T := by
      rw [← hTT]
      exact isInts_of_own (hM.ownI 3 rfl) (by rw [List.length_map]; omega) (fun x hx => by obtain ⟨y, hy, rfl⟩ := List.mem_map.1 hx; exact (HL.out.ok y (hF.sub y hy)).2)
    rw [hTT] at hM
    have p0 : wr.cell? ⟨w.heap.size + 1 + 1, 0, none⟩ = some vf := by have := hM.cell 0 rfl 0; simpa using this
    have p1 : wr.cell? ⟨w.heap.size + 1 + 1 + 1, 0, none⟩ = some vt := by have := hM.cell 2 rfl 0; simpa using this
    have p2 : wr.cell? ⟨w.heap.size, 0, none⟩ = some (.slice a1 g.objs.length c1) := by have := hM.cell 5 rfl 0; simpa using this
    have p3 : wr.cell? ⟨w.heap.size + 1, 0, none⟩ = some (.slice a3 h.objs.length c3) := by have := hM.cell 4 rfl 0; simpa using this
    have z0 : w.heap.size + 1 + 1 + 1 < wr.heap.size := (hM.box 2 rfl).2.1
    obtain ⟨aF, cF, rfl, _⟩ := hFi.slice
    by_cases hlt : k < F.length
    · obtain ⟨x, hx⟩ := get_some _ _ hlt
      have hxL := hF.sub x (List.mem_of_getElem? hx)
      obtain ⟨bF, oF, cap1, hv, _, _, g1, _⟩ := hFi.at (Below.refl _ _) hx
      cases hv
      have hTx : T[k]? = some (p x) := by rw [← hTT, List.getElem?_map, hx]; rfl
      have hltT : k < T.length := by omega
      obtain ⟨bT, oT, cap2, hv, _, _, g2, _⟩ := hTi.at (Below.refl _ _) hTx
      obtain ⟨⟨r1, r2⟩, r3, r4⟩ := HI.out.rng x hxL
      obtain ⟨ob, hob⟩ := get_some g.objs x.toNat (by omega)
      obtain ⟨oq, hoq⟩ := get_some h.objs (p x).toNat (by omega)
      have hfe := HI.out.fields x hxL
      have hfl := HI.out.fieldsL x hxL
      unfold fieldsAt at hfe hfl
      rw [List.getD_eq_getElem?_getD, List.getD_eq_getElem?_getD, hob, hoq] at hfe
      rw [List.getD_eq_getElem?_getD, hob] at hfl
      simp only [Option.getD_some] at hfe hfl
      have hob4 := hG.fields ob (List.mem_of_getElem? hob)
      obtain ⟨i, hi⟩ : ∃ i : Nat, x = (i : Int) := ⟨x.toNat, by omega⟩
      obtain ⟨j, hj⟩ : ∃ j : Nat, p x = (j : Int) := ⟨(p x).toNat, by omega⟩
      rw [hj] at g2 hoq r3 r4
      subst hi
      simp only [Int.toNat_natCast] at hob hoq
      obtain ⟨b5, o5, cap5, u5, hv5, _, _, g5, hu5⟩ := Huo.out.at hM.below hob
      obtain ⟨b6, o6, cap6, u6, hv6, _, _, g6, hu6⟩ := Hvo.out.at hM.below hoq
      cases hv
      cases hv5
      cases hv6
      have hi2 : i < g.objs.length := by omega
      have hj2 : j < h.objs.length := by omega
      obtain ⟨a7, c7, rfl, _⟩ := hu5.slice
      obtain ⟨a8, c8, rfl, _⟩ := hu6.slice
      have HM := Lib.hid hM
      have HF := Lib.hid hF
      have HTT := Lib.hid hTT
      have Hfl := Lib.hid hfl
      have Hu5 := Lib.hid hu5
      have Hu6 := Lib.hid (hu6.of_eq hfe)
      clear hM hF hTT hlT0 hFi hTi hx hTx hob hoq hfe hfl hu5 hu6 hj
      go_wp2
      go_still_tail 18, (by kernel_rfl)
      go_wp2_with fail
      refine (pair_iso L p HL.out w _ _ ob Hu5.out Hu6.out (by omega) Hfl.out _ _ _ _ F HF.out _ _ ((HM.out.drew).cast (by rw [← HTT.out]))).mono ?_
      rintro e w3 ⟨rfl, vf3, vt3, F3, hle3, hF3, hM3⟩
      have HF3 := Lib.hid hF3
      have HM3 := Lib.hid hM3
      clear hF3 hM3
      go_wp2
      go_roundw
      case rel => exact ⟨k + 1, vf3, vt3, F3, rfl, by go_num, by omega, HF3.out, HM3.out⟩
      case measure => have := HF3.out.le; simp [intOf]; omega
    · obtain rfl : k = F.length := by omega
      go_wp2
      go_ret
      exact ⟨rfl, hM.below⟩
end Go.Proofs.Ytgdodbdipbomfaa
