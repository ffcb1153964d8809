/- Colours: work, begin. -/
import Derived.Test.YtjnbnfmlpdnngaaC6
import Derived.Test.YtjnbnfmlpdnngaaQ3
import Derived.Test.YtjnbnfmlpdnngaaC7a
import Derived.Test.YtjnbnfmlpdnngaaTy
import Derived.Laws.EntriesVeiled
namespace Go.Proofs.Ytjnbnfmlpdnngaa
open Go.RowKit Go.Shelf
attribute [local go_sem] Oper.semAt_some

theorem heap_set_ne {W : World} {g b : Nat} (h : g ≠ b) (i : Nat) (v : Value) : (W.setCell ⟨g, i, none⟩ v).heap[b]? = W.heap[b]? := by
  show (Array.modify _ _ _)[b]? = _
  rw [Array.getElem?_modify, if_neg h]
theorem Mem.intAt3 {B : Nat} {w0 w : World} {L : List Ent} (h : Mem B w0 w L) (k : Nat) {e : TypeId} {b m cap : Nat} {l : List Int} (hk : L[k]? = some (rowI e (.slice (some ⟨b, 0, none⟩) m cap) l)) {j : Nat} {x : Int} (hx : l[j]? = some x) :
    w.cell? ⟨b, j, none⟩ = some (.int .i64 x) ∧ w.frozen? ⟨b, j, none⟩ = false ∧ b < w.heap.size := by
  obtain ⟨g, cap', hv, _, hb, hc, hf⟩ := h.intsAt k hk (by rintro rfl; simp at hx)
  cases hv
  exact ⟨hc j x hx, hf j, hb⟩
section
variable (B : Nat) (w0 : World) (bx : Nat) (regs : List V) (mv : Value) (bm : Nat) (bv : Value)
set_option maxRecDepth 100000 in
set_option maxHeartbeats 4000000 in
theorem twork_any (T : List Ent) (w : World) (os : Os) (x : Tx) (hl : os.length ≤ 1000) (hcl : x.col.length = os.length) (hin : ∀ (i : Nat) (l : List V), os[i]? = some (some l) → ∀ v ∈ l, InR x.col.length v)
    (hfl : ∀ (i : Nat) (l : List V), os[i]? = some (some l) → l.length ≤ 1000) (hC : TM B w0 bx regs mv bm bv os x T w) :
    Calls Try.prog 37 #[.pointer (some ⟨bm, 0, none⟩)] w fun e w' => e = .returned (.int .i64 (workS ⟨regs, os, x⟩).2) ∧ TM B w0 bx regs mv bm bv (workS ⟨regs, os, x⟩).1.os (workS ⟨regs, os, x⟩).1.x T w' := by
  have hg := grey_any B w0 bx regs mv bm bv T w os x hl hcl hC
  cases hh : (hueL os x.col 1 os.length).head? with
  | none =>
    have hN : greyN os x.col = -1 := by unfold greyN; rw [hh]; rfl
    have hWk : workS ⟨regs, os, x⟩ = (⟨regs, os, x⟩, 7) := by unfold workS; simp only [hh]
    rw [hN] at hg
    rw [hWk]
    have Hg := Lib.hid hg
    clear hg hN hWk hh hC hin hfl hcl hl
    go_enter Try.func37, Try.ntmps37
    go_wp2_with fail
    refine Hg.out.mono ?_
    rintro e w1 ⟨rfl, h1⟩
    have H1 := Lib.hid h1
    clear h1 Hg
    go_wp2_with fail
    go_ret
    exact ⟨rfl, H1.out⟩
  | some y =>
    have hm0 : y ∈ hueL os x.col 1 os.length := List.mem_of_mem_head? (by rw [hh]; exact rfl)
    obtain ⟨hli, _⟩ := mem_hueL.1 hm0
    obtain ⟨i, rfl⟩ : ∃ i : Nat, y = (i : Int) := ⟨y.toNat, by have := hli.1; omega⟩
    have hob := hli.obj
    rw [Int.toNat_natCast] at hob
    have hil : i < x.col.length := by have := hli.lt; rw [hcl]; omega
    have hWk : workS ⟨regs, os, x⟩ = (⟨regs, os, ⟨(shades x.col (objAt os i)).set i 2, x.gone⟩⟩, 0) := by unfold workS; simp only [hh, Int.toNat_natCast]
    have hN : greyN os x.col = (i : Int) := by unfold greyN; rw [hh]; rfl
    rw [hN] at hg
    rw [hWk]
    have hfl2 := hfl i _ hob
    have hin2 := hin i _ hob
    obtain ⟨ol, hol⟩ : ∃ ol, objAt os (i : Int) = ol := ⟨_, rfl⟩
    rw [hol] at hfl2 hin2 hob ⊢
    have hn0 : ¬ ((i : Int) < 0) := by omega
    have Hg := Lib.hid hg
    have Hob := Lib.hid hob
    have Hin := Lib.hid hin2
    have Hil := Lib.hid hil
    clear hg hN hWk hh hC hin hfl hcl hl hm0 hli hob hin2 hol hil
    go_enter Try.func37, Try.ntmps37
    go_wp2_with fail
    refine Hg.out.mono ?_
    rintro e w1 ⟨rfl, vo, cs, vc, vg, hc, hM⟩
    obtain ⟨o, ho, rfl⟩ := conts_get (cs := cs) (i := i) (l := ol) (by rw [hc]; exact Hob.out)
    have O := oAt_of (A := tA bx regs mv bm bv vo cs vc x.col vg x.gone) (kp := 2) (vo := vo) (cs := cs) (R := T) rfl
    obtain ⟨g, cap, rfl, q0, q1, q2⟩ := hM.ptrAt O ho
    obtain ⟨q3, q4, ao, co, hov⟩ := hM.objAt O ho
    have hrow : ∀ c, (tA bx regs mv bm bv (.slice (some ⟨g, 0, none⟩) cs.length cap) cs vc c vg x.gone ++ (objsE cs ++ T))[5 + cs.length + i]? = some (rowV 84 o.v o.l) := fun c => (oAt_of (A := tA bx regs mv bm bv (.slice (some ⟨g, 0, none⟩) cs.length cap) cs vc c vg x.gone) (kp := 2) (vo := (.slice (some ⟨g, 0, none⟩) cs.length cap)) (cs := cs) (R := T) rfl).r i _ ho
    rw [hov] at q3
    unfold ptrO at q0
    simp only at q0
    have m0 : w1.cell? ⟨bm, 0, none⟩ = some (.slice (some ⟨g, 0, none⟩) cs.length cap) := hM.cell 1 rfl 0
    have mb : bm < w1.heap.size := (hM.box 1 rfl).2.1
    have e1 : (i : Int) < (cs.length : Int) := by have := (List.getElem?_eq_some_iff.1 ho).1; omega
    obtain ⟨gC, capC, rfl, _⟩ := hM.intsAt 3 rfl (by intro e; have := Hil.out; rw [e] at this; simp at this)
    have HM := Lib.hid hM
    have Hc := Lib.hid hc
    have Hrow := Lib.hid hrow
    have Hov := Lib.hid hov
    clear hM hc hrow O hov ho Hg Hob
    go_upto_region 5 with (fail)
    go_loopw [5, 21] (fun _ s21 wr => ∃ k : Nat, k ≤ o.l.length ∧ s21 = .int .i64 (k : Int) ∧ Mem B w0 wr (tA bx regs mv bm bv (.slice (some ⟨g, 0, none⟩) cs.length cap) cs (.slice (some ⟨gC, 0, none⟩) x.col.length capC) (shades x.col (o.l.take k)) vg x.gone ++ (objsE cs ++ T))) (fun _ i _ => o.l.length - (intOf i).toNat)
    case atStart => exact ⟨0, Nat.zero_le _, rfl, HM.out⟩
    case round =>
      clear HM q0 q1 q2 q3 q4 m0 mb
      obtain ⟨k, hk, rfl, hM⟩ := hrel
      by_cases hlt : k < o.l.length
      · obtain ⟨u, hu⟩ := get_some _ _ hlt
        obtain ⟨gv, c2, hv, v0, v1, _, vb⟩ := hM.valAt _ (Hrow.out _) hu
        have hv2 := Hov.out.symm.trans hv
        cases hv2
        have hMa := hM.alloc_ (.cells #[.bool u.ref, .int .i64 u.n] 84)
        have hdo := shade_any B w0 bx regs mv bm bv _ cs _ vg x.gone _ _ _ u hMa (by rw [shades_len]; exact Hin.out u (List.mem_of_getElem? hu))
        rw [← shades_snoc, ← take_succ_some _ _ _ hu] at hdo
        have Hdo := Lib.hid hdo
        have e2 : (k : Int) < (o.l.length : Int) := by omega
        clear hdo hMa hM hu hv
        go_wp2_with fail
        refine Hdo.out.mono ?_
        rintro e w5 ⟨rfl, h5⟩
        have H5 := Lib.hid h5
        clear Hdo h5
        go_wp2_with fail
        go_roundw
        case rel => exact ⟨k + 1, by omega, by go_num, H5.out⟩
        case measure => simp [intOf]; omega
      · obtain rfl : k = o.l.length := by omega
        rw [List.take_length] at hM
        have m2 : wr.cell? ⟨bm, 2, none⟩ = some (.slice (some ⟨gC, 0, none⟩) x.col.length capC) := hM.cell 1 rfl 2
        have mb : bm < wr.heap.size := (hM.box 1 rfl).2.1
        obtain ⟨z, hz⟩ : ∃ z, (shades x.col o.l)[i]? = some z := ⟨_, List.getElem?_eq_getElem (by rw [shades_len]; exact Hil.out)⟩
        obtain ⟨c0, c1, cb⟩ := hM.intAt3 3 rfl hz
        have e2 : (i : Int) < (x.col.length : Int) := by have := Hil.out; omega
        have hM2 := hM.setI 3 rfl (by rw [shades_len]) i 2
        have HM2 := Lib.hid hM2
        clear hM hM2 hz
        go_wp2_with fail
        go_ret
        exact ⟨rfl, _, cs, _, vg, Hc.out, HM2.out⟩
theorem init0_get {c : List Int} {k : Nat} (h : k < c.length) : ∃ x, (List.replicate k 0 ++ c.drop k)[k]? = some x := ⟨_, List.getElem?_eq_getElem (by simp; omega)⟩
theorem init0_step {c : List Int} {k : Nat} (h : k < c.length) : (List.replicate k 0 ++ c.drop k).set k 0 = List.replicate (k + 1) 0 ++ c.drop (k + 1) := by
  rw [List.set_append_right _ _ (by simp), List.length_replicate, Nat.sub_self, List.drop_eq_getElem_cons h, List.set_cons_zero, List.replicate_succ', List.append_assoc]; rfl
def ones (n : Nat) (l : List Int) : List Int := l.foldl (fun c j => c.set j.toNat 1) (List.replicate n 0)
theorem ones_len (n : Nat) (l : List Int) : (ones n l).length = n := by
  unfold ones
  have : ∀ (l : List Int) (c : List Int), (l.foldl (fun c j => c.set j.toNat 1) c).length = c.length := by
    intro l
    induction l with
    | nil => intro c; rfl
    | cons x l ih => intro c; rw [List.foldl_cons, ih, List.length_set]
  rw [this]; simp
theorem ones_snoc (n : Nat) (l : List Int) (x : Int) : ones n (l ++ [x]) = (ones n l).set x.toNat 1 := by unfold ones; rw [List.foldl_append]; rfl
@[reducible] def bA (bp : Nat) (c8 : Array Value) (L : List Ent) (bm : Nat) : List Ent := ebox (bp + 1) c8 86 :: ebox bp #[.pointer (some ⟨bm, 0, none⟩)] 75 :: L
set_option maxRecDepth 100000 in
set_option maxHeartbeats 4000000 in
theorem begin_in (R : List Ent) (w : World) (vo : Value) (cs : List (Option Oc)) (vc : Value) (c : List Int) (vg : Value) (gn : List Int) (rg : List V) (h8 : rg.length = 8) (hr : ∀ v ∈ rg, InR c.length v) (hi : ∀ v ∈ rg, i64ok v.n) (hcl : c.length ≤ 1000)
    (hM : Mem B w0 w (tA bx regs mv bm bv vo cs vc c vg gn ++ R)) :
    CallsIn Fence.wide 10 Try.prog 36 #[.pointer (some ⟨bm, 0, none⟩), regsV rg] w fun e w' => e = .returned (.tuple #[]) ∧ Mem B w0 w' (tA bx regs mv bm bv vo cs vc (beginC c.length rg) vg gn ++ R) := by
  obtain ⟨v0, v1, v2, v3, v4, v5, v6, v7, hv8⟩ := eight h8
  have hrv : regsV rg = .agg #[.bool v0.ref, .int .i64 v0.n, .bool v1.ref, .int .i64 v1.n, .bool v2.ref, .int .i64 v2.n, .bool v3.ref, .int .i64 v3.n, .bool v4.ref, .int .i64 v4.n, .bool v5.ref, .int .i64 v5.n, .bool v6.ref, .int .i64 v6.n, .bool v7.ref, .int .i64 v7.n] := by rw [hv8]; rfl
  rw [hrv]
  obtain ⟨a, cap, hva⟩ := hM.intsSlice 3 rfl
  have hga : 0 < c.length → ∃ g, a = some ⟨g, 0, none⟩ ∧ g < w.heap.size := by
    intro h0
    obtain ⟨g, cap2, hv, _, hgw, _⟩ := hM.intsAt 3 rfl (by rintro rfl; simp at h0)
    rw [hva] at hv
    cases hv
    exact ⟨g, rfl, hgw⟩
  subst hva
  have p2 : w.cell? ⟨bm, 2, none⟩ = some (.slice a c.length cap) := hM.cell 1 rfl 2
  have p3 : bm < w.heap.size := (hM.box 1 rfl).2.1
  have hM0 := (hM.alloc #[.pointer (some ⟨bm, 0, none⟩)] 75).alloc #[.bool v0.ref, .int .i64 v0.n, .bool v1.ref, .int .i64 v1.n, .bool v2.ref, .int .i64 v2.n, .bool v3.ref, .int .i64 v3.n, .bool v4.ref, .int .i64 v4.n, .bool v5.ref, .int .i64 v5.n, .bool v6.ref, .int .i64 v6.n, .bool v7.ref, .int .i64 v7.n] 86
  simp only [World.size_alloc] at hM0
  have HM0 := Lib.hid hM0
  have Hga := Lib.hid hga
  have Hr := Lib.hid hr
  have Hi := Lib.hid hi
  have H8 := Lib.hid h8
  have Hv8 := Lib.hid hv8
  obtain ⟨n, hn⟩ : ∃ n, c.length = n := ⟨_, rfl⟩
  rw [hn] at hcl HM0 Hga Hr p2 ⊢
  have Hn := Lib.hid hn
  clear hM hM0 hga hr hi h8 hv8 hrv hn
  refine callsIn_of_wp_marks Try.func36 rfl trivial ?_ rfl
  simp only [Try.ntmps36, List.size_toArray, List.length_cons, List.length_nil, Nat.reduceAdd, Nat.reduceSub, Array.replicate_succ, Array.replicate_zero, List.push_toArray, List.append_toArray, List.nil_append, List.cons_append]
  gi_wp2_with fail
  gi_loopw [4, 11] (fun _ s11 wr => ∃ k : Nat, k ≤ n ∧ s11 = .int .i64 (k : Int) ∧ Mem B w0 wr (bA w.heap.size #[.bool v0.ref, .int .i64 v0.n, .bool v1.ref, .int .i64 v1.n, .bool v2.ref, .int .i64 v2.n, .bool v3.ref, .int .i64 v3.n, .bool v4.ref, .int .i64 v4.n, .bool v5.ref, .int .i64 v5.n, .bool v6.ref, .int .i64 v6.n, .bool v7.ref, .int .i64 v7.n] (tA bx regs mv bm bv vo cs (.slice a n cap) (List.replicate k 0 ++ c.drop k) vg gn ++ R) bm)) (fun _ i _ => n - (intOf i).toNat)
  case atStart => exact ⟨0, Nat.zero_le _, rfl, HM0.out⟩
  case round =>
    clear HM0 p2 p3
    obtain ⟨k, hk, rfl, hM⟩ := hrel
    have p0 : wr.cell? ⟨w.heap.size, 0, none⟩ = some (.pointer (some ⟨bm, 0, none⟩)) := hM.cell 1 rfl 0
    have pb : w.heap.size < wr.heap.size := (hM.box 1 rfl).2.1
    have p2 : wr.cell? ⟨bm, 2, none⟩ = some (.slice a n cap) := hM.cell 3 rfl 2
    have p3 : bm < wr.heap.size := (hM.box 3 rfl).2.1
    by_cases hlt : k < n
    · obtain ⟨g, rfl, hgw⟩ := Hga.out (by omega)
      obtain ⟨z, hz⟩ := init0_get (c := c) (k := k) (by rw [Hn.out]; exact hlt)
      obtain ⟨c0, c1, cb⟩ := hM.intAt3 5 rfl hz
      have hM2 := hM.setI 5 rfl (by simp; have := Hn.out; omega) k 0
      rw [init0_step (by rw [Hn.out]; exact hlt)] at hM2
      have e1 : (k : Int) < (n : Int) := by omega
      have HM2 := Lib.hid hM2
      clear hM hM2 hz
      gi_wp2
      go_roundw
      case rel => exact ⟨k + 1, by omega, by go_num, HM2.out⟩
      case measure => simp [intOf]; omega
    · obtain rfl : k = n := by omega
      have hz : List.replicate k 0 ++ c.drop k = List.replicate k 0 := by rw [List.drop_of_length_le (by rw [Hn.out]; exact Nat.le_refl _), List.append_nil]
      rw [hz] at hM
      have hbox : (bA w.heap.size #[.bool v0.ref, .int .i64 v0.n, .bool v1.ref, .int .i64 v1.n, .bool v2.ref, .int .i64 v2.n, .bool v3.ref, .int .i64 v3.n, .bool v4.ref, .int .i64 v4.n, .bool v5.ref, .int .i64 v5.n, .bool v6.ref, .int .i64 v6.n, .bool v7.ref, .int .i64 v7.n] (tA bx regs mv bm bv vo cs (.slice a k cap) (List.replicate k 0) vg gn ++ R) bm)[0]? = some (ebox (w.heap.size + 1) (rg.flatMap cellsV).toArray 86) := by rw [Hv8.out]; rfl
      have hvals := isVals_box hM 0 hbox 8 H8.out (by rw [H8.out]; decide) Hi.out
      have pb1 : w.heap.size + 1 < wr.heap.size := (hM.box 0 rfl).2.1
      have HM := Lib.hid hM
      have Hvals := Lib.hid hvals
      clear hM hvals hbox hz
      gi_wp2_with fail
      refine ⟨trivial, (targets_opaque _ _ _ _ _).mono ?_⟩
      rintro e w3 ⟨Bs, rfl, hb3, hBs, hcs⟩
      have hM5 := HM.out.call hb3
      have hbase := hM5.base
      have hcalm := calm_of hM5 (fun x hx => hx)
      gi_wp2
      refine range_slotB (by omega) (gf := 79) (lb := #[.pointer (some ⟨Bs, 0, none⟩)]) rfl (enters_of Try.func79 (by kernel_rfl) rfl)
        (targets_stopsB _ (by omega) Bs (w.heap.size + 1) B 8 rg w3 (Hvals.out.later hb3) (Nat.lt_of_lt_of_le pb1 hb3.size) hBs hcs) hbase (Nat.lt_of_lt_of_le pb1 hb3.size)
        (fun pre W => Mem B w0 W (bA w.heap.size #[.bool v0.ref, .int .i64 v0.n, .bool v1.ref, .int .i64 v1.n, .bool v2.ref, .int .i64 v2.n, .bool v3.ref, .int .i64 v3.n, .bool v4.ref, .int .i64 v4.n, .bool v5.ref, .int .i64 v5.n, .bool v6.ref, .int .i64 v6.n, .bool v7.ref, .int .i64 v7.n] (tA bx regs mv bm bv vo cs (.slice a k cap) (ones k (pre.map (·.1))) vg gn ++ R) bm))
        (fun _ _ _ => False) (ownFrom_mem _ hbase ?calm) (fun _ => ownFrom_false _) hM5 5 (fun x => .int .i64 x.1) ?assign ?body ?done ?stop
      case calm =>
        intro pre x hx
        simp only [List.mem_cons, List.mem_append] at hx
        rcases hx with rfl | rfl | (rfl | rfl | rfl | rfl | rfl | hx) | hx
        · exact ebox_calm _ _ _ _
        · exact ebox_calm _ _ _ _
        · exact ebox_calm _ _ _ _
        · exact ebox_calm _ _ _ _
        · exact erow_calm _ _ _ _ _ _
        · exact rowI_calm _ _ _ _
        · exact rowI_calm _ _ _ _
        · cases hx
        · exact hcalm x (by simp [hx])
      case assign =>
        intro l x W K hK
        simp only [laid]
        gi_wp2
        exact hK
      case stop => rintro D c pre W hD hpre hf hK; exact hf.elim
      case body =>
        rintro l pre ⟨x, hx⟩ W hsz hM hlen
        obtain ⟨pr, hpr⟩ : ∃ pr : List Int, pre.map (·.1) = pr := ⟨_, rfl⟩
        have hx2 := Hr.out _ (mem_of_target hx) rfl
        simp only at hx2
        obtain ⟨i, rfl⟩ : ∃ i : Nat, x = (i : Int) := ⟨x.toNat, by omega⟩
        obtain ⟨g, rfl, hgw⟩ := Hga.out (by omega)
        rw [hpr] at hM
        obtain ⟨z, hz⟩ : ∃ z, (ones k pr)[i]? = some z := ⟨_, List.getElem?_eq_getElem (by rw [ones_len]; omega)⟩
        obtain ⟨c0, c1, cb⟩ := hM.intAt3 5 rfl hz
        have q0 : W.cell? ⟨w.heap.size, 0, none⟩ = some (.pointer (some ⟨bm, 0, none⟩)) := hM.cell 1 rfl 0
        have qb : w.heap.size < W.heap.size := (hM.box 1 rfl).2.1
        have q2 : W.cell? ⟨bm, 2, none⟩ = some (.slice (some ⟨g, 0, none⟩) k cap) := hM.cell 3 rfl 2
        have q3 : bm < W.heap.size := (hM.box 3 rfl).2.1
        have e1 : (i : Int) < (k : Int) := hx2.2
        have hM3 := hM.setI 5 rfl (by rw [ones_len]) i 1
        have hon : (ones k pr).set i 1 = ones k (pr ++ [(i : Int)]) := by rw [ones_snoc, Int.toNat_natCast]
        rw [hon] at hM3
        have HM3 := Lib.hid hM3
        have Hpr := Lib.hid hpr
        have hB := hM.below
        have hB3 := hM3.below
        have hne : g ≠ w.heap.size + 1 := by omega
        clear hM hM3 hz hpr hx2 hM5 hcalm hon p0 pb p2 p3
        simp only [laid]
        gi_wp2
        refine ⟨(KeepsOthers.setCell _ _ _).from _, ⟨below_between hB hB3 (by simp), ?_⟩, ?_⟩
        · exact heap_set_ne hne _ _
        · show Mem _ _ _ _; rw [List.map_append, Hpr.out]; exact HM3.out
      case done =>
        rintro D1 xs W hD1 hxs hM hK1
        rw [hxs] at hM
        have hM7 := hM.addDef' (D := D1) (by omega) hK1 (fun x hx => by
          simp only [List.mem_cons, List.mem_append] at hx
          rcases hx with rfl | rfl | (rfl | rfl | rfl | rfl | rfl | hx) | hx
          · exact ebox_calm _ _ _ _
          · exact ebox_calm _ _ _ _
          · exact ebox_calm _ _ _ _
          · exact ebox_calm _ _ _ _
          · exact erow_calm _ _ _ _ _ _
          · exact rowI_calm _ _ _ _
          · exact rowI_calm _ _ _ _
          · cases hx
          · intro W' B0 hok b hb
            rcases hcalm x (by simp [hx]) W' B0 hok b hb with h1 | h1
            · exact .inl (Nat.lt_of_lt_of_le h1 hD1)
            · exact .inr h1)
        have HM7 := Lib.hid hM7
        clear hM hM7 hM5 hK1 hxs hcalm p0 pb p2 p3
        gi_wp2
        refine leaves_marks (v := .tuple #[]) [D1] _ HM7.out ?_
        intro W' hM8
        refine ⟨by simp [results, Try.results36, go_sem], rfl, ?_⟩
        have hM9 := hM8.drop (((List.sublist_cons_self _ _).trans (List.sublist_cons_self _ _)))
        exact hM9
theorem begin_any (R : List Ent) (w : World) (vo : Value) (cs : List (Option Oc)) (vc : Value) (c : List Int) (vg : Value) (gn : List Int) (rg : List V) (h8 : rg.length = 8) (hr : ∀ v ∈ rg, InR c.length v) (hi : ∀ v ∈ rg, i64ok v.n) (hcl : c.length ≤ 1000)
    (hM : Mem B w0 w (tA bx regs mv bm bv vo cs vc c vg gn ++ R)) :
    Calls Try.prog 36 #[.pointer (some ⟨bm, 0, none⟩), regsV rg] w fun e w' => e = .returned (.tuple #[]) ∧ Mem B w0 w' (tA bx regs mv bm bv vo cs vc (beginC c.length rg) vg gn ++ R) :=
  callsIn_wide.1 (begin_in B w0 bx regs mv bm bv R w vo cs vc c vg gn rg h8 hr hi hcl hM)
end
end Go.Proofs.Ytjnbnfmlpdnngaa
