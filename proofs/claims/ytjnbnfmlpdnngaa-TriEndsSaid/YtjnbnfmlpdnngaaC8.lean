/- Colours: sweep. -/
import Derived.Test.YtjnbnfmlpdnngaaC7
import Derived.Test.YtjnbnfmlpdnngaaIx
import Derived.Test.YtjnbnfmlpdnngaaOt
namespace Go.Proofs.Ytjnbnfmlpdnngaa
open Go.RowKit Go.Shelf

theorem conts_kill (cs : List (Option Oc)) (i : Nat) : conts (cs.set i none) = (conts cs).set i none := by unfold conts; rw [List.map_set]; rfl
theorem kill_snoc (os : Os) (l : List Int) (x : Int) : killL os (l ++ [x]) = (killL os l).set x.toNat none := by unfold killL; rw [List.foldl_append]; rfl
/-- The white ones among those that were looked at. -/
def whites (c l : List Int) : List Int := l.filter fun i => cAt c i == 0
theorem whites_snoc (c l : List Int) (x : Int) : whites c (l ++ [x]) = if cAt c x = 0 then whites c l ++ [x] else whites c l := by
  unfold whites
  rw [List.filter_append]
  by_cases h : cAt c x = 0
  · rw [if_pos h, List.filter_cons_of_pos (by rw [h]; rfl)]; rfl
  · rw [if_neg h, List.filter_cons_of_neg (by simpa using h)]; simp
theorem not_earlier {os : Os} {k : Nat} {x : Int} {n : Nat} (h : (thereL os n)[k]? = some x) : x ∉ (thereL os n).take k := by
  intro hx
  obtain ⟨j, hj⟩ := List.getElem?_of_mem hx
  have hjk : j < k := by have := (List.getElem?_eq_some_iff.1 hj).1; rw [List.length_take] at this; omega
  rw [List.getElem?_take_of_lt hjk] at hj
  obtain ⟨h1, h2⟩ := List.getElem?_eq_some_iff.1 h
  obtain ⟨h3, h4⟩ := List.getElem?_eq_some_iff.1 hj
  have := List.pairwise_iff_getElem.1 (thereL_rising os n) j k h3 h1 hjk
  omega
theorem greyN_pos {os : Os} {c : List Int} (h : hueL os c 1 os.length ≠ []) : 0 ≤ greyN os c := by
  unfold greyN
  cases hh : hueL os c 1 os.length with
  | nil => exact absurd hh h
  | cons a l =>
    have hm : a ∈ hueL os c 1 os.length := by rw [hh]; exact List.mem_cons_self ..
    exact (mem_hueL.1 hm).1.1
theorem greyN_nil {os : Os} {c : List Int} (h : hueL os c 1 os.length = []) : greyN os c = -1 := by unfold greyN; rw [h]; rfl
section
variable (B : Nat) (w0 : World) (bx : Nat) (regs : List V) (mv : Value) (bm : Nat) (bv : Value)
variable {B w0 bx regs mv bm bv} in
theorem TM.dropEnd {os : Os} {x : Tx} {T S : List Ent} {w : World} (h : TM B w0 bx regs mv bm bv os x (T ++ S) w) : TM B w0 bx regs mv bm bv os x T w := by
  obtain ⟨vo, cs, vc, vg, h1, h2⟩ := h
  exact ⟨vo, cs, vc, vg, h1, h2.drop (List.Sublist.append_left (List.Sublist.append_left (List.sublist_append_left _ _) _) _)⟩
set_option maxRecDepth 100000 in
set_option maxHeartbeats 8000000 in
theorem tsweep_any (T : List Ent) (w : World) (os : Os) (x : Tx) (rg : List V) (h8 : rg.length = 8) (hr : ∀ v ∈ rg, InR x.col.length v) (hi : ∀ v ∈ rg, i64ok v.n) (hl : os.length ≤ 1000) (hcl : x.col.length = os.length) (hgl : x.gone.length ≤ 1000)
    (hC : TM B w0 bx regs mv bm bv os x T w) :
    Calls Try.prog 38 #[.pointer (some ⟨bm, 0, none⟩), regsV rg] w fun e w' => e = .returned (.int .i64 (sweepS ⟨rg, os, x⟩).2) ∧ TM B w0 bx regs mv bm bv (sweepS ⟨rg, os, x⟩).1.os (sweepS ⟨rg, os, x⟩).1.x T w' := by
  obtain ⟨v0, v1, v2, v3, v4, v5, v6, v7, hv8⟩ := eight h8
  have hrv : regsV rg = .agg #[.bool v0.ref, .int .i64 v0.n, .bool v1.ref, .int .i64 v1.n, .bool v2.ref, .int .i64 v2.n, .bool v3.ref, .int .i64 v3.n, .bool v4.ref, .int .i64 v4.n, .bool v5.ref, .int .i64 v5.n, .bool v6.ref, .int .i64 v6.n, .bool v7.ref, .int .i64 v7.n] := by rw [hv8]; rfl
  have hsw : sweepS ⟨rg, os, x⟩ = if hueL os (shades x.col rg) 1 os.length ≠ [] then (⟨rg, os, ⟨shades x.col rg, x.gone⟩⟩, 8) else (⟨rg, killL os (hueL os (shades x.col rg) 0 os.length), ⟨beginC x.col.length rg, x.gone ++ hueL os (shades x.col rg) 0 os.length⟩⟩, 0) := rfl
  obtain ⟨S, hS⟩ : ∃ S, sweepS ⟨rg, os, x⟩ = S := ⟨_, rfl⟩
  rw [hS] at hsw ⊢
  have HS := Lib.hid hsw
  clear hsw hS
  obtain ⟨vo, cs, vc, vg, hc, hM⟩ := hC
  have hM0 : Mem B w0 (w.alloc (.cells #[.bool v0.ref, .int .i64 v0.n, .bool v1.ref, .int .i64 v1.n, .bool v2.ref, .int .i64 v2.n, .bool v3.ref, .int .i64 v3.n, .bool v4.ref, .int .i64 v4.n, .bool v5.ref, .int .i64 v5.n, .bool v6.ref, .int .i64 v6.n, .bool v7.ref, .int .i64 v7.n] 86)) (tA bx regs mv bm bv vo cs vc x.col vg x.gone ++ (objsE cs ++ (T ++ [ebox w.heap.size #[.bool v0.ref, .int .i64 v0.n, .bool v1.ref, .int .i64 v1.n, .bool v2.ref, .int .i64 v2.n, .bool v3.ref, .int .i64 v3.n, .bool v4.ref, .int .i64 v4.n, .bool v5.ref, .int .i64 v5.n, .bool v6.ref, .int .i64 v6.n, .bool v7.ref, .int .i64 v7.n] 86]))) := by
    have := hM.allocEnd (A := tA bx regs mv bm bv vo cs vc x.col vg x.gone) #[.bool v0.ref, .int .i64 v0.n, .bool v1.ref, .int .i64 v1.n, .bool v2.ref, .int .i64 v2.n, .bool v3.ref, .int .i64 v3.n, .bool v4.ref, .int .i64 v4.n, .bool v5.ref, .int .i64 v5.n, .bool v6.ref, .int .i64 v6.n, .bool v7.ref, .int .i64 v7.n] 86
    rwa [List.append_assoc] at this
  obtain ⟨T2, hT2⟩ : ∃ T2, T ++ [ebox w.heap.size #[.bool v0.ref, .int .i64 v0.n, .bool v1.ref, .int .i64 v1.n, .bool v2.ref, .int .i64 v2.n, .bool v3.ref, .int .i64 v3.n, .bool v4.ref, .int .i64 v4.n, .bool v5.ref, .int .i64 v5.n, .bool v6.ref, .int .i64 v6.n, .bool v7.ref, .int .i64 v7.n] 86] = T2 := ⟨_, rfl⟩
  rw [hT2] at hM0
  have HT2 := Lib.hid hT2
  have HM0 := Lib.hid hM0
  have Hc := Lib.hid hc
  have Hr := Lib.hid hr
  have Hi := Lib.hid hi
  have H8 := Lib.hid h8
  have Hl := Lib.hid hl
  have Hcl := Lib.hid hcl
  have Hgl := Lib.hid hgl
  have Hrv := Lib.hid hrv
  rw [hrv]
  clear hM hM0 hc hr hi h8 hl hcl hgl hrv hv8 hT2
  go_enter Try.func38, Try.ntmps38
  go_upto_region 2 with (fail)
  go_loopw [6, 10] (fun _ s10 wr => ∃ k : Nat, k ≤ 8 ∧ s10 = .int .i64 (k : Int) ∧ Mem B w0 wr (tA bx regs mv bm bv vo cs vc (shades x.col (rg.take k)) vg x.gone ++ (objsE cs ++ T2))) (fun _ i _ => 8 - (intOf i).toNat)
  case atStart => exact ⟨0, by omega, rfl, HM0.out⟩
  case round =>
    clear HM0
    obtain ⟨k, hk, rfl, hM⟩ := hrel
    by_cases hlt : k < 8
    · obtain ⟨u, hu⟩ := get_some rg k (by rw [H8.out]; exact hlt)
      have hix := ix_any H8.out hu wr
      rw [Hrv.out] at hix
      have hMa := hM.alloc_ (.cells #[.bool u.ref, .int .i64 u.n] 84)
      have hdo := shade_any B w0 bx regs mv bm bv _ cs _ vg x.gone _ _ _ u hMa (by rw [shades_len]; exact Hr.out u (List.mem_of_getElem? hu))
      rw [← shades_snoc, ← take_succ_some _ _ _ hu] at hdo
      have Hdo := Lib.hid hdo
      have e2 : (k : Int) < 8 := by omega
      clear hdo hMa hM hu
      go_wp2_with fail
      refine Hdo.out.mono ?_
      rintro e w5 ⟨rfl, h5⟩
      have H5 := Lib.hid h5
      clear Hdo h5
      go_wp2_with fail
      go_roundw
      case rel => exact ⟨k + 1, by omega, by go_num, H5.out⟩
      case measure => simp [intOf]; omega
    · have e2 : ¬ (k : Int) < 8 := by omega
      rw [List.take_of_length_le (by rw [H8.out]; omega)] at hM
      have hlen1 : (shades x.col rg).length = x.col.length := shades_len _ _
      have hsw := HS.out
      obtain ⟨c1, hc1⟩ : ∃ c1, shades x.col rg = c1 := ⟨_, rfl⟩
      rw [hc1] at hM hlen1 hsw
      have hcl1 : c1.length = os.length := by rw [hlen1, Hcl.out]
      have hg := grey_any B w0 bx regs mv bm bv T2 wr os ⟨c1, x.gone⟩ Hl.out hcl1 ⟨vo, cs, vc, vg, Hc.out, hM⟩
      have Hlen1 := Lib.hid hlen1
      have Hcl1 := Lib.hid hcl1
      clear hc1 hlen1 hM hk hlt HS
      by_cases hh : hueL os c1 1 os.length = []
      · rw [if_neg (fun h => h hh)] at hsw
        rw [show greyN os (Tx.mk c1 x.gone).col = -1 from greyN_nil hh] at hg
        have Hg := Lib.hid hg
        clear hg hcl1 hh
        go_wp2_with fail
        refine Hg.out.mono ?_
        rintro e w2 ⟨rfl, vo2, cs2, vc2, vg2, hc2, hM2⟩
        have m0 : w2.cell? ⟨bm, 0, none⟩ = some vo2 := hM2.cell 1 rfl 0
        have mb : bm < w2.heap.size := (hM2.box 1 rfl).2.1
        have hcl2 : cs2.length = os.length := by rw [← hc2, conts_len]
        have hth := othere_any B w0 w2 _ 2 5 vo2 cs2 hM2 (oAt_of (A := tA bx regs mv bm bv vo2 cs2 vc2 c1 vg2 x.gone) rfl) (by rw [hcl2]; exact Hl.out)
        rw [hc2, hcl2] at hth
        have hmem : ∀ y ∈ thereL os os.length, Lives os y ∧ y < (c1.length : Int) := by
          intro y hy
          obtain ⟨h1, h2⟩ := (mem_thereL (Nat.le_refl _)).1 hy
          rw [Hcl1.out]; exact ⟨h1, h2⟩
        have hnot : ∀ k y, (thereL os os.length)[k]? = some y → y ∉ (thereL os os.length).take k := fun k y h => not_earlier h
        have hTn : (thereL os os.length).length ≤ 1000 := by have := thereL_len os os.length; have := Hl.out; omega
        have hue : hueL os c1 0 os.length = whites c1 (thereL os os.length) := rfl
        rw [hue] at hsw
        obtain ⟨TL, hTL⟩ : ∃ TL, thereL os os.length = TL := ⟨_, rfl⟩
        rw [hTL] at hth hmem hTn hnot hsw
        have HSv := Lib.hid hsw
        clear hsw
        have Hth := Lib.hid hth
        have Hmem := Lib.hid hmem
        have Hnot := Lib.hid hnot
        obtain ⟨aO, capO, rfl⟩ := hM2.ptrSlice (oAt_of (A := tA bx regs mv bm bv vo2 cs2 vc2 c1 vg2 x.gone) (kp := 2) (vo := vo2) rfl)
        rw [hcl2] at hM2 m0 Hth
        have HM2 := Lib.hid hM2
        have Hc2 := Lib.hid hc2
        clear hM2 hc2 hcl2 hth hTL hmem hnot hue Hg
        go_wp2_with fail
        refine Hth.out.mono ?_
        rintro e w3 ⟨vl, rfl, hMt⟩
        obtain ⟨aL, cL, rfl⟩ := hMt.intsSlice 0 rfl
        have hM3 := HM2.out.callMem hMt
        have HM3 := Lib.hid hM3
        obtain ⟨nL, hnL⟩ : ∃ nL, TL.length = nL := ⟨_, rfl⟩
        rw [hnL] at HM3 hTn ⊢
        have HnL := Lib.hid hnL
        clear hM3 hMt Hth HM2 m0 mb hnL
        go_upto_region 9 with (fail)
        go_loopw [8, 26] (fun _ s26 wq => ∃ (k : Nat) (cq : List (Option Oc)) (vq : Value), k ≤ nL ∧ s26 = .int .i64 (k : Int) ∧ conts cq = killL os (whites c1 (TL.take k)) ∧
          Mem B w0 wq (rowI 3 (.slice aL nL cL) TL :: (tA bx regs mv bm bv (.slice aO os.length capO) cq vc2 c1 vq (x.gone ++ whites c1 (TL.take k)) ++ (objsE cq ++ T2)))) (fun _ i _ => nL - (intOf i).toNat)
        case atStart => exact ⟨0, cs2, vg2, Nat.zero_le _, rfl, Hc2.out, by have := HM3.out; simpa [whites] using this⟩
        case round =>
          clear HM3
          obtain ⟨k, cq, vq, hk, rfl, hcq, hM⟩ := hrel
          by_cases hlt : k < nL
          · have e1 : (k : Int) < (nL : Int) := by omega
            obtain ⟨y, hy⟩ := get_some TL k (by rw [HnL.out]; exact hlt)
            obtain ⟨hly, hy1⟩ := Hmem.out y (List.mem_of_getElem? hy)
            have hny := Hnot.out k y hy
            obtain ⟨i, rfl⟩ : ∃ i : Nat, y = (i : Int) := ⟨y.toNat, by have := hly.1; omega⟩
            obtain ⟨gL, capL, hvL, _, bL, cL2, _⟩ := hM.intsAt 0 rfl (by rintro rfl; simp at hy)
            have d0 := cL2 k _ hy
            have haL : aL = some ⟨gL, 0, none⟩ := by cases hvL; rfl
            subst haL
            obtain ⟨z, hz⟩ : ∃ z, c1[i]? = some z := ⟨_, List.getElem?_eq_getElem (by omega)⟩
            obtain ⟨gC, capC, hvC, _, bC, cC, _⟩ := hM.intsAt 4 rfl (by intro e; rw [e] at hz; simp at hz)
            have d1 := cC i z hz
            have n2 : wr.cell? ⟨bm, 2, none⟩ = some vc2 := hM.cell 2 rfl 2
            rw [hvC] at n2
            have nb : bm < wr.heap.size := (hM.box 2 rfl).2.1
            have hza : cAt c1 (i : Int) = z := by unfold cAt; rw [Int.toNat_natCast, List.getD_eq_getElem?_getD, hz]; rfl
            have htk := take_succ_some _ _ _ hy
            have e2 : (i : Int) < (c1.length : Int) := by omega
            obtain ⟨F, hF⟩ : ∃ F, whites c1 (TL.take k) = F := ⟨_, rfl⟩
            rw [hF] at hcq hM
            have hiF : (i : Int) ∉ F := by rw [← hF]; exact fun h => hny (List.mem_filter.1 h).1
            have hF0 : ∀ q ∈ F, 0 ≤ q := by
              intro q hq
              rw [← hF] at hq
              exact (Hmem.out q (List.mem_of_mem_take (List.mem_filter.1 hq).1)).1.1
            have hFl : F.length ≤ 1000 := by
              rw [← hF]
              have h1 : (whites c1 (TL.take k)).length ≤ (TL.take k).length := List.length_filter_le _ _
              rw [List.length_take, HnL.out] at h1
              omega
            have hnx : whites c1 (TL.take (k + 1)) = if z = 0 then F ++ [(i : Int)] else F := by rw [htk, whites_snoc, hza, hF]
            have Hnx := Lib.hid hnx
            clear hnx hy hny hvL cL2 cC hza htk hF hy1
            by_cases h1 : z = 0
            · subst h1
              have hob := hly.obj
              rw [Int.toNat_natCast] at hob
              have hoq : (conts cq)[i]? = some (some (objAt os (i : Int))) := by
                rw [hcq, kill_get _ _ hF0, if_neg (fun h => hiF h.1)]; exact hob
              obtain ⟨o, ho, _⟩ := conts_get hoq
              have hql : cq.length = os.length := by have := congrArg List.length hcq; rwa [conts_len, kill_len] at this
              have O := oAt_of (A := rowI 3 (.slice (some ⟨gL, 0, none⟩) nL cL) TL :: tA bx regs mv bm bv (.slice aO os.length capO) cq vc2 c1 vq (x.gone ++ F)) (kp := 3) (vo := .slice aO os.length capO) (cs := cq) (R := T2) rfl
              obtain ⟨g, cap2, hvo, q0, q1, q2⟩ := hM.ptrAt O ho
              injection hvo with h1 h2 h3
              subst h1 h3
              unfold ptrO at q0
              simp only at q0
              have m0 : wr.cell? ⟨bm, 0, none⟩ = some (.slice (some ⟨g, 0, none⟩) os.length capO) := hM.cell 2 rfl 0
              have e3 : (i : Int) < (os.length : Int) := by have := (List.getElem?_eq_some_iff.1 ho).1; omega
              rw [← hql] at hM
              have hM1 := hM.setRow (n := cq.length) 3 rfl i (.pointer none)
              obtain ⟨W1, hW1⟩ : ∃ W1, wr.setCell ⟨g, i, none⟩ (.pointer none) = W1 := ⟨_, rfl⟩
              rw [hW1] at hM1
              have m5 : W1.cell? ⟨bm, 3, none⟩ = some vq := hM1.cell 2 rfl 3
              have mb1 : bm < W1.heap.size := (hM1.box 2 rfl).2.1
              have hM3 := objs_take (A := [rowI 3 (.slice (some ⟨gL, 0, none⟩) nL cL) TL, mbox bx regs mv, ebox bm #[.slice (some ⟨g, 0, none⟩) cq.length capO, bv, vc2, vq] 81, erow 123 1 (.slice (some ⟨g, 0, none⟩) cq.length capO) cq.length ((cq.map ptrO).set i (.pointer none)), rowI 3 vc2 c1, rowI 3 vq (x.gone ++ F)]) ho (hM1.cast rfl)
              have e4 : erow 123 1 (.slice (some ⟨g, 0, none⟩) cq.length capO) cq.length ((cq.map ptrO).set i (.pointer none)) = rowP (.slice (some ⟨g, 0, none⟩) cq.length capO) (cq.set i none) := by
                unfold rowP; rw [List.length_set, List.map_set]; rfl
              rw [e4, hql] at hM3
              have hgl2 : (x.gone ++ F).length ≤ 1000000 := by rw [List.length_append]; have := Hgl.out; omega
              have hcq2 : conts (cq.set i none) = killL os (F ++ [(i : Int)]) := by rw [conts_kill, hcq, kill_snoc, Int.toNat_natCast]
              have hn2 := Hnx.out
              rw [if_pos rfl] at hn2
              have Hn2 := Lib.hid hn2
              have HM4 := Lib.hid hM3
              have HW1 := Lib.hid hW1
              have Hcq2 := Lib.hid hcq2
              clear hM hM1 hM3 hW1 e4 hql hcq2 hn2 hcq O ho hoq hob hly hF0 hiF hFl hz h2
              go_upto_region 13 with (fail)
              rw [HW1.out]
              clear q0 q1 q2 m0 d0 d1 n2 nb bL bC
              go_wp2_with (at_builtin; refine Mem.wp_appI elemInts rfl (.tmp 48) (.tmp 50) rfl HM4.out 5 rfl rfl _ (i : Int) _ _ rfl (by simp) hgl2 ?_; intro ad n1 cp w6 hn1 hM6 hs6 hk6 ha6; have m6 : w6.cell? ⟨bm, 3, none⟩ = some vq := hM6.cell 2 rfl 3; have f6 : w6.frozen? ⟨bm, 3, none⟩ = false := hM6.free 2 rfl 3; have mb3 : bm < w6.heap.size := (hM6.box 2 rfl).2.1; have hM7 := Lib.hid (hM6.setBox 2 rfl 3 (.slice ad n1 cp)); clear hM6)
              go_roundw
              case rel =>
                refine ⟨k + 1, cq.set i none, .slice ad n1 cp, by omega, by go_num, by rw [Hn2.out]; exact Hcq2.out, ?_⟩
                rw [Hn2.out, show x.gone ++ (F ++ [(i : Int)]) = x.gone ++ F ++ [(i : Int)] from (List.append_assoc _ _ _).symm]
                exact hM7.out.drop (List.Sublist.append_left (List.Sublist.append_left (List.sublist_cons_self _ _) _) (_ :: tA bx regs mv bm bv _ (cq.set i none) vc2 c1 _ _))
              case measure => simp [intOf]; omega
            · have hzb : (z == 0) = false := by simpa using h1
              have hn2 := Hnx.out
              rw [if_neg h1] at hn2
              have Hn2 := Lib.hid hn2
              have HMr := Lib.hid hM
              have Hcq := Lib.hid hcq
              clear hn2 hM hcq hiF hF0 hFl hly hz hvC
              go_wp2_with fail
              go_roundw
              case rel => exact ⟨k + 1, cq, vq, by omega, by go_num, by rw [Hn2.out]; exact Hcq.out, by rw [Hn2.out]; exact HMr.out⟩
              case measure => simp [intOf]; omega
          · obtain rfl : k = nL := by omega
            rw [List.take_of_length_le (by rw [HnL.out]; exact Nat.le_refl _)] at hcq hM
            have e1 : ¬ (k : Int) < (k : Int) := by omega
            have hmb : ebox w.heap.size #[.bool v0.ref, .int .i64 v0.n, .bool v1.ref, .int .i64 v1.n, .bool v2.ref, .int .i64 v2.n, .bool v3.ref, .int .i64 v3.n, .bool v4.ref, .int .i64 v4.n, .bool v5.ref, .int .i64 v5.n, .bool v6.ref, .int .i64 v6.n, .bool v7.ref, .int .i64 v7.n] 86 ∈ (rowI 3 (.slice aL k cL) TL :: (tA bx regs mv bm bv (.slice aO os.length capO) cq vc2 c1 vq (x.gone ++ whites c1 TL) ++ (objsE cq ++ T2))) := by rw [← HT2.out]; simp
            have k0 := hM.boxCell hmb 0 rfl
            have k1 := hM.boxCell hmb 1 rfl
            have k2 := hM.boxCell hmb 2 rfl
            have k3 := hM.boxCell hmb 3 rfl
            have k4 := hM.boxCell hmb 4 rfl
            have k5 := hM.boxCell hmb 5 rfl
            have k6 := hM.boxCell hmb 6 rfl
            have k7 := hM.boxCell hmb 7 rfl
            have k8 := hM.boxCell hmb 8 rfl
            have k9 := hM.boxCell hmb 9 rfl
            have k10 := hM.boxCell hmb 10 rfl
            have k11 := hM.boxCell hmb 11 rfl
            have k12 := hM.boxCell hmb 12 rfl
            have k13 := hM.boxCell hmb 13 rfl
            have k14 := hM.boxCell hmb 14 rfl
            have k15 := hM.boxCell hmb 15 rfl
            have kb : w.heap.size < wr.heap.size := (hM.boxFree hmb 0).2
            have hM' := hM.drop (List.sublist_cons_self _ _)
            have hbg := begin_any B w0 bx regs mv bm bv (objsE cq ++ T2) wr _ cq vc2 c1 vq _ rg H8.out (by rw [Hlen1.out]; exact Hr.out) Hi.out (by rw [Hcl1.out]; exact Hl.out) hM'
            rw [Hrv.out, Hlen1.out] at hbg
            have Hbg := Lib.hid hbg
            have Hcq := Lib.hid hcq
            clear hbg hM' hM hmb hcq
            go_wp2_with fail
            refine Hbg.out.mono ?_
            rintro e w8 ⟨rfl, hM8⟩
            have HM8 := Lib.hid hM8
            clear hM8 Hbg
            go_wp2_with fail
            go_ret
            rw [HSv.out]
            refine ⟨rfl, TM.dropEnd (S := [ebox w.heap.size #[.bool v0.ref, .int .i64 v0.n, .bool v1.ref, .int .i64 v1.n, .bool v2.ref, .int .i64 v2.n, .bool v3.ref, .int .i64 v3.n, .bool v4.ref, .int .i64 v4.n, .bool v5.ref, .int .i64 v5.n, .bool v6.ref, .int .i64 v6.n, .bool v7.ref, .int .i64 v7.n] 86]) ?_⟩
            rw [HT2.out]
            exact ⟨_, cq, vc2, vq, Hcq.out, HM8.out⟩
      · rw [if_pos hh] at hsw
        have HSv := Lib.hid hsw
        clear hsw
        have hp := greyN_pos hh
        obtain ⟨j, hj⟩ : ∃ j : Nat, greyN os c1 = (j : Int) := ⟨(greyN os c1).toNat, by omega⟩
        rw [show greyN os (Tx.mk c1 x.gone).col = (j : Int) from hj] at hg
        have hj0 : (0 : Int) ≤ (j : Int) := by omega
        have Hg := Lib.hid hg
        clear hg hcl1 hh hp hj
        go_wp2_with fail
        refine Hg.out.mono ?_
        rintro e w2 ⟨rfl, h2⟩
        have H2 := Lib.hid h2
        clear h2 Hg
        go_wp2_with fail
        go_ret
        rw [HSv.out]
        refine ⟨rfl, TM.dropEnd (S := [ebox w.heap.size #[.bool v0.ref, .int .i64 v0.n, .bool v1.ref, .int .i64 v1.n, .bool v2.ref, .int .i64 v2.n, .bool v3.ref, .int .i64 v3.n, .bool v4.ref, .int .i64 v4.n, .bool v5.ref, .int .i64 v5.n, .bool v6.ref, .int .i64 v6.n, .bool v7.ref, .int .i64 v7.n] 86]) ?_⟩
        have := H2.out
        rw [← HT2.out] at this
        exact this
end
end Go.Proofs.Ytjnbnfmlpdnngaa
