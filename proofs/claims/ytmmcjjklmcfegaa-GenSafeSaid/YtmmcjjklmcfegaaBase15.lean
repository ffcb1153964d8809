/- Texts Gke Gkf Gkg Gkh in one. -/
import Derived.Test.YtmmcjjklmcfegaaBase13
import Derived.Test.YtmmcjjklmcfegaaOt
import Derived.Deep.LoopGhost
import Derived.Test.YtmmcjjklmcfegaaBase16
import Derived.Test.YtmmcjjklmcfegaaQ2
import Derived.Deep.CutBlock
/- A memory with young and old: minor, walked. -/
namespace Go.Proofs.Ytmmcjjklmcfegaa
open Go.RowKit Go.Shelf

theorem isVals_mbox {B : Nat} {w0 w : World} {L : List Ent} (h : Mem B w0 w L) (k : Nat) {bx : Nat} {regs : List V} {mv : Value} (hk : L[k]? = some (mbox bx regs mv)) (h8 : regs.length = 8) (hi : ∀ v ∈ regs, i64ok v.n) : IsVals w (.slice (some ⟨bx, 0, none⟩) 8 8) regs := by
  refine ⟨_, 8, by rw [h8], by omega, fun j x hx => ?_⟩
  obtain ⟨h1, h2, _, h3⟩ := h.regAt k hk hx
  exact ⟨bx, 0, rfl, h3, by rw [Nat.zero_add]; exact h1, by rw [Nat.zero_add]; exact h2, hi x (List.mem_of_getElem? hx)⟩
theorem isVals_part {B : Nat} {w0 w : World} {L : List Ent} (h : Mem B w0 w L) (k : Nat) {e : TypeId} {g n cap : Nat} {l : List V} (hk : L[k]? = some (rowV e (.slice (some ⟨g, 0, none⟩) n cap) l)) {j : Nat} {x : V} (hx : l[j]? = some x) (hi : i64ok x.n) (c : Nat) : IsVals w (.slice (some ⟨g, j * 2, none⟩) 1 c) [x] := by
  obtain ⟨g', cap', hv, h1, h2, _, h3⟩ := h.valAt k hk hx
  cases hv
  refine ⟨_, c, rfl, by simp, fun i y hy => ?_⟩
  have hi0 : i = 0 := by have := (List.getElem?_eq_some_iff.1 hy).1; simp at this; omega
  subst hi0
  obtain rfl : x = y := by simpa using hy
  exact ⟨g, j * 2, rfl, h3, by rw [Nat.zero_mul, Nat.add_zero]; exact h1, by rw [Nat.zero_mul, Nat.add_zero]; exact h2, hi⟩
theorem Mem.capV {B : Nat} {w0 w : World} {L : List Ent} (h : Mem B w0 w L) (k : Nat) {e : TypeId} {a : Option Addr} {n cap : Nat} {l : List V} (hk : L[k]? = some (rowV e (.slice a n cap) l)) : l.length ≤ cap := by
  have hr := h.ownV k hk
  rcases hr.2 with ⟨_, h0⟩ | ⟨g, cap', cur, hv, hB, hg, hn, hcap, _⟩
  · omega
  · cases hv; exact hn
theorem conts_nilG (cs : List (Option Oc)) (i : Nat) : conts (cs.set i none) = (conts cs).set i none := by unfold conts; rw [List.map_set]; rfl
theorem killL_snocG (os : Os) (l : List Int) (x : Int) : killL os (l ++ [x]) = (killL os l).set x.toNat none := by unfold killL; rw [List.foldl_append]; rfl
/-- Those that are not kept, among those that were looked at. -/
def gonesG (L l : List Int) : List Int := l.filter fun i => !decide (i ∈ L)
theorem gonesG_snoc (L l : List Int) (x : Int) : gonesG L (l ++ [x]) = if x ∈ L then gonesG L l else gonesG L l ++ [x] := by
  unfold gonesG
  rw [List.filter_append]
  by_cases h : x ∈ L
  · rw [if_pos h, List.filter_cons_of_neg (by simpa using h)]; simp
  · rw [if_neg h, List.filter_cons_of_pos (by simpa using h)]; rfl
theorem there_not_earlierG {os : Os} {k : Nat} {x : Int} {n : Nat} (h : (thereL os n)[k]? = some x) : x ∉ (thereL os n).take k := by
  intro hx
  obtain ⟨j, hj⟩ := List.getElem?_of_mem hx
  have hjk : j < k := by have := (List.getElem?_eq_some_iff.1 hj).1; rw [List.length_take] at this; omega
  rw [List.getElem?_take_of_lt hjk] at hj
  obtain ⟨h1, h2⟩ := List.getElem?_eq_some_iff.1 h
  obtain ⟨h3, h4⟩ := List.getElem?_eq_some_iff.1 hj
  have := List.pairwise_iff_getElem.1 (thereL_rising os n) j k h3 h1 hjk
  omega
theorem InvG.obK {room : Int} {s : Sm Gx} (h : InvG room s) {cs : List (Option Oc)} (hc : conts cs = s.os) : ObK cs := by
  refine ⟨by rw [hc]; exact h.clo, by
    rw [hc]
    intro i l hl
    refine ⟨by have := h.fine.flen i l hl; omega, fun v hv => ?_⟩
    cases hr : v.ref with
    | true => have := h.fine.rng i l hl v hv hr; have := h.len; exact ⟨by omega, by omega⟩
    | false => have := h.fine.num i l hl v hv hr; exact ⟨by omega, by omega⟩⟩
theorem InvG.regsOk {room : Int} {s : Sm Gx} (h : InvG room s) : ∀ v ∈ s.regs, i64ok v.n := by
  intro v hv
  cases hr : v.ref with
  | true => have h1 := lives_rng ((h.fine.regs v hv).1 hr); have := h.len; exact ⟨by omega, by omega⟩
  | false => have := (h.fine.regs v hv).2 hr; exact ⟨by omega, by omega⟩
/-- The step. -/
theorem Mem.wp_nextCI {B : Nat} {w0 w : World} {L : List Ent} {ops : Array Oper} {rest : List Oper} {o : Oper} {a : Act} {Q : Exit → Act → World → Prop} (hgd : o.guard = none) (it : Operand) (hop : o.op = Op.next it false)
    (h : Mem B w0 w L) (kr km : Nat) {b r n cnt : Nat} {f : Int × Int → Option Value} {left : Int × Int → Bool} {mo ro : Obj} (hkr : L[kr]? = some (efix r ro)) (hkm : L[km]? = some (efix b mo)) (hR : Ranging mapCI b r n f left cnt mo ro) (hit : a.eval it = .pointer (some ⟨r, 0, none⟩))
    (hDone : cnt = 0 → (∀ x : Int × Int, i64ok x.1 ∧ i64ok x.2 → left x = false) → wpList Try.prog ops Q rest (a.put o.dst (.tuple #[.bool false])) w)
    (hMore : ∀ (p q : Int) (v : Value) (w' : World) (cnt' : Nat) (ro' : Obj), i64ok p ∧ i64ok q → left (p, q) = true → f (p, q) = some v → Mem B w0 w' (L.set kr (efix r ro')) → Ranging mapCI b r n f (fun y => left y && !decide (y = (p, q))) cnt' mo ro' → cnt' < cnt → w'.heap.size = w.heap.size →
      (Instr.entry (.pointer (some ⟨r, 0, none⟩))).run Try.prog w' = .ok (.tuple #[.agg #[.int .i64 p, .int .i64 q], v]) w' → wpList Try.prog ops Q rest (a.put o.dst (.tuple #[.bool true, .agg #[.int .i64 p, .int .i64 q], v])) w') : wpList Try.prog ops Q (o :: rest) a w :=
  Mem.wp_nextG (M := mapCI) mapCI_inv hgd it hop h kr km hkr hkm hR hit hDone (fun x v w' c ro' => hMore x.1 x.2 v w' c ro')
section
variable (B : Nat) (w0 : World) (bx : Nat) (regs : List V) (mv : Value) (bm : Nat) (room : Int)
theorem Mem.unTail {B : Nat} {w0 w : World} {x : Ent} {A O T : List Ent} (h : Mem B w0 w (A ++ (O ++ x :: T))) : Mem B w0 w (x :: (A ++ (O ++ T))) := h.perm (by
  rw [← List.append_assoc, ← List.append_assoc]
  exact List.perm_middle.symm)
/-- What is kept so far: registers, and of what is remembered what is not left. -/
def seedL (os : Os) (rem left : Int × Int → Bool) (v : V) : Prop := v ∈ regs ∨ ∃ p : Int × Int, rem p = true ∧ left p = false ∧ (objAt os p.1)[p.2.toNat]? = some v
set_option maxRecDepth 100000 in
set_option maxHeartbeats 8000000 in
theorem minor_any (T : List Ent) (w : World) (os : Os) (x : Gx) (hI : InvG room ⟨regs, os, x⟩) (hC : GM B w0 bx regs mv bm room os x T w) :
    Calls Try.prog 53 #[.pointer (some ⟨bm, 0, none⟩)] w fun e w' => e = .returned (.tuple #[]) ∧ GM B w0 bx regs mv bm room (minorS ⟨regs, os, x⟩).os (minorS ⟨regs, os, x⟩).x T w' := by
  obtain ⟨vo, cs, bt, nt, vK, hcs, hnt, hM⟩ := hC
  have hlen : cs.length ≤ 900 := by have := hI.len; rw [← hcs, conts_len] at this; exact this
  have hol : x.old.length = cs.length := by have := hI.olen; rw [← hcs, conts_len] at this; exact this
  have hobk := hI.obK (cs := cs) hcs
  have h8 := hI.fine.regs8
  have hro := hI.regsOk
  have m1 : w.cell? ⟨bm, 1, none⟩ = some (.pointer (some ⟨bx, 0, none⟩)) := hM.cell 1 rfl 1
  have mb : bm < w.heap.size := (hM.box 1 rfl).2.1
  have xb : bx < w.heap.size := (hM.box 0 rfl).2.1
  have hk := callsIn_wide.1 (keep_all B w0 bx regs mv bm room vo cs (.map (some bt)) (gmap mapCI bt nt (setC x.rem)) hobk _ T vK x.old w (.slice (some ⟨bx, 0, none⟩) 8 8) regs hol (Nat.le_refl _) (fun K' W _ h => isVals_mbox h 0 rfl h8 hro) (fun v hv hr => by rw [hcs]; exact (hI.fine.regs v hv).1 hr) hM)
  have hremok := hI.remOk
  have hrg : ∀ p, x.rem p = true → i64ok p.1 ∧ i64ok p.2 := fun p hp => by
    obtain ⟨h1, _, h2, h3⟩ := hremok p hp
    have h4 := lives_rng h1
    have h5 : os.length ≤ 900 := hI.len
    have h6 := hI.fine.flen _ _ h1.obj
    have h7 : (objAt os p.1).length ≤ 4 := h6
    have h8 : p.2 < ((objAt os p.1).length : Int) := h3
    have h9 : p.1 < (os.length : Int) := h4.2
    exact ⟨⟨by omega, by omega⟩, ⟨by omega, by omega⟩⟩
  have hki : ∀ K', KeepR os (seedG ⟨regs, os, x⟩) x.old K' → K' = keptG ⟨regs, os, x⟩ := fun K' h => h.eq (fun v hv hr => (hI.seed hv hr).1) (fun i v hv hr => (hI.fldRng i v hv hr).1)
  have Hk := Lib.hid hk
  have HI := Lib.hid hI
  have Hcs := Lib.hid hcs
  have Hnt := Lib.hid hnt
  have Hol := Lib.hid hol
  have Hobk := Lib.hid hobk
  have Hrem := Lib.hid hremok
  have Hrg := Lib.hid hrg
  have Hki := Lib.hid hki
  clear hk hI hcs hnt hol hobk hremok hM h8 hro hrg hki
  go_enter Try.func53, Try.ntmps53
  go_wp2_with fail
  refine Hk.out.mono ?_
  rintro e w1 ⟨rfl, K1, hK1, hM1, _⟩
  have m3 : w1.cell? ⟨bm, 3, none⟩ = some (.map (some bt)) := Mem.cell hM1 1 rfl 3
  have mb1 : bm < w1.heap.size := (Mem.box hM1 1 rfl).2.1
  have HM1 : Hid (Mem B w0 w1 (gA bx regs mv bm room vo cs (.map (some bt)) (gmap mapCI bt nt (setC x.rem)) vK K1 ++ (objsE cs ++ T))) := Lib.hid hM1
  have HK1 := Lib.hid hK1
  clear hK1 hM1 Hk m1 mb xb
  go_wp2_with (first
    | (at_range
       refine Mem.wp_rangeG (M := mapCI) rfl _ rfl HM1.out 4 rfl rfl ?_
       intro w5 r cn mo ro hM5 hR5 hcnt hr5 hs5 hb5)
    | fail)
  go_frame
  have hM5b : Mem B w0 w5 (efix r ro :: (gA bx regs mv bm room vo cs (.map (some bt)) (efix bt mo) vK K1 ++ (objsE cs ++ T))) := hM5
  have HM5 := Lib.hid hM5b
  have HR5 := Lib.hid hR5
  clear hM5 hM5b hR5 hr5 hb5 hcnt hs5 HM1 m3 mb1
  go_loopg [2] cn (fun gk _ wr => ∃ (left : Int × Int → Bool) (ro : Obj) (K : List Bool), KeepR os (seedL regs os x.rem left) x.old K ∧ Ranging mapCI bt r nt (setC x.rem) left gk mo ro ∧ Mem B w0 wr (efix r ro :: (gA bx regs mv bm room vo cs (.map (some bt)) (efix bt mo) vK K ++ (objsE cs ++ T))))
  case atStart =>
    refine ⟨_, _, K1, ?_, HR5.out, HM5.out⟩
    have h1 := HK1.out
    rw [Hcs.out] at h1
    refine h1.congr fun v => ?_
    unfold seedL
    constructor
    · exact .inl
    · rintro (h | ⟨p, h2, h3, _⟩)
      · exact h
      · rw [Bool.eq_false_iff] at h3
        exact absurd (setC_some.2 h2) h3
  case round =>
    clear HM5 HR5 HK1
    obtain ⟨left, ro5, K, hK, hR, hM⟩ := hrel
    have HMr := Lib.hid hM
    have HR := Lib.hid hR
    have HK := Lib.hid hK
    clear hM hR hK
    have m0 : wr.cell? ⟨bm, 0, none⟩ = some vo := HMr.out.cell 2 rfl 0
    have mb : bm < wr.heap.size := (HMr.out.box 2 rfl).2.1
    go_wp2_with (first
      | (at_next
         refine Mem.wp_nextCI rfl _ rfl HMr.out 0 5 rfl rfl HR.out rfl ?_ ?_
         (focus (intro hc0 hl0)); rotate_left
         (focus (intro p1 p2 v w6 c6 ro6 hx6 hl6 hf6 hM6 hR6 hlt6 hs6 hen6)))
      | fail)
    · have hrp : x.rem (p1, p2) = true := by
        unfold setC at hf6
        split at hf6
        · assumption
        · cases hf6
      obtain ⟨hl, _, hk0, hk1⟩ := Hrem.out _ hrp
      have hl : Lives os p1 := hl
      have hk0 : 0 ≤ p2 := hk0
      have hk1 : p2 < ((objAt os p1).length : Int) := hk1
      obtain ⟨i, rfl⟩ : ∃ i : Nat, p1 = (i : Int) := ⟨p1.toNat, by have := hl.1; omega⟩
      obtain ⟨k, rfl⟩ : ∃ k : Nat, p2 = (k : Int) := ⟨p2.toNat, by omega⟩
      have hob := hl.obj
      rw [Int.toNat_natCast, ← Hcs.out] at hob
      obtain ⟨o, ho, hol2⟩ := conts_get hob
      rw [Hcs.out] at hol2
      have hkl : k < o.l.length := by rw [hol2]; omega
      obtain ⟨y, hy⟩ := get_some _ _ hkl
      have hM6b : Mem B w0 w6 (efix r ro6 :: (gA bx regs mv bm room vo cs (.map (some bt)) (efix bt mo) vK K ++ (objsE cs ++ T))) := hM6
      have hM7 := (hM6b.toTail.allocAt wr.heap.size hs6 #[.int .i64 (i : Int), .int .i64 (k : Int)] 53).toTail
      obtain ⟨b7, hb7⟩ : ∃ b7, wr.heap.size = b7 := ⟨_, rfl⟩
      obtain ⟨W7, hW7⟩ : ∃ W7, w6.alloc (.cells #[.int .i64 (i : Int), .int .i64 (k : Int)] 53) = W7 := ⟨_, rfl⟩
      rw [hb7, hW7] at hM7
      rw [hb7]
      have hidx := idx_tail (gA bx regs mv bm room vo cs (.map (some bt)) (efix bt mo) vK K) cs (ebox b7 #[.int .i64 (i : Int), .int .i64 (k : Int)] 53) (efix r ro6 :: T)
      have z0 : W7.cell? ⟨b7, 0, none⟩ = some (.int .i64 (i : Int)) := by have := hM7.cell _ hidx 0; simpa using this
      have z1 : W7.cell? ⟨b7, 1, none⟩ = some (.int .i64 (k : Int)) := by have := hM7.cell _ hidx 1; simpa using this
      have zb : b7 < W7.heap.size := (hM7.box _ hidx).2.1
      have y0 : W7.cell? ⟨bm, 0, none⟩ = some vo := hM7.cell 1 rfl 0
      have yb : bm < W7.heap.size := (hM7.box 1 rfl).2.1
      have O := oAt_of (A := gA bx regs mv bm room vo cs (.map (some bt)) (efix bt mo) vK K) (kp := 2) (vo := vo) (cs := cs) (R := ebox b7 #[.int .i64 (i : Int), .int .i64 (k : Int)] 53 :: efix r ro6 :: T) rfl
      obtain ⟨g, cap, hvo, q0, q1, q2⟩ := hM7.ptrAt O ho
      obtain ⟨q3, q4, ao, co, hov⟩ := hM7.objAt O ho
      have hrow := O.r i _ ho
      obtain ⟨gv, c2, hv2, v0, v1, _, vb⟩ := hM7.valAt _ (show _ = some (rowV 80 o.v o.l) from hrow) hy
      have hcapv : o.l.length ≤ c2 := Mem.capV hM7 _ (show _ = some (rowV 80 (.slice (some ⟨gv, 0, none⟩) o.l.length c2) o.l) from by rw [← hv2]; exact hrow)
      have hKl : K.length = cs.length := by rw [HK.out.len]; exact Hol.out
      have hiy : i64ok y.n := (Hobk.out.val i _ hob).2 y (by rw [Hcs.out, ← hol2]; exact List.mem_of_getElem? hy)
      have hly : y.ref = true → Lives (conts cs) y.n := fun hr => Hobk.out.clo (i : Int) (by rw [Hcs.out]; exact hl) y (by rw [Hcs.out, ← hol2]; exact List.mem_of_getElem? hy) hr
      have hcall := callsIn_wide.1 (keep_all B w0 bx regs mv bm room vo cs (.map (some bt)) (efix bt mo) Hobk.out _ (ebox b7 #[.int .i64 (i : Int), .int .i64 (k : Int)] 53 :: efix r ro6 :: T) vK K W7.drew (.slice (some ⟨gv, k * 2, none⟩) 1 (c2 - k)) [y] hKl (Nat.le_refl _) (fun K' W _ h => by
        have hr' := (oAt_of (A := gA bx regs mv bm room vo cs (.map (some bt)) (efix bt mo) vK K') (kp := 2) (vo := vo) (cs := cs) (R := ebox b7 #[.int .i64 (i : Int), .int .i64 (k : Int)] 53 :: efix r ro6 :: T) rfl).r i _ ho
        exact isVals_part h _ (show _ = some (rowV 80 (.slice (some ⟨gv, 0, none⟩) o.l.length c2) o.l) from by rw [← hv2]; exact hr') hy hiy _) (fun v hv hr => by
        obtain rfl : v = y := by simpa using hv
        exact hly hr) (Mem.drew hM7))
      have Hcall := Lib.hid hcall
      rw [hvo] at y0
      rw [hv2] at q3
      unfold ptrO at q0
      simp only at q0
      have e1 : (i : Int) < (cs.length : Int) := by have := (List.getElem?_eq_some_iff.1 ho).1; omega
      have e2 : (k : Int) ≤ (k : Int) + 1 := by omega
      have e3 : (k : Int) + 1 ≤ (c2 : Int) := by omega
      have ekn : k ≤ 1000 := by have h1 := hkl; have h2 := (Hobk.out.val i _ hob).1; rw [Hcs.out, ← hol2] at h2; omega
      have ewr : IntKind.i64.wrap ((k : Int) + 1) = (k : Int) + 1 := IntWalk.i64_in _ (by omega)
      have e4 : ¬ (k : Int) < 0 := by omega
      have e5 : (0 : Int) ≤ (k : Int) := by omega
      have hyk : (objAt os (i : Int))[k]? = some y := by rw [← hol2]; exact hy
      have HW7 := Lib.hid hW7
      have Hyk := Lib.hid hyk
      have HR6 := Lib.hid hR6
      have Hrp := Lib.hid hrp
      clear hM6 hM6b hM7 hW7 hcall O hov hrow hob hol2 hl hv2 hvo hidx hyk hx6 hl6 hf6 hR6 hen6 HMr HR hrp hiy hly ho hy hKl
      rw [HW7.out]
      go_still_tail 18, (by kernel_rfl)
      go_wp2_with fail
      refine Hcall.out.mono ?_
      rintro e w8 ⟨rfl, K8, hK8, hM8, _⟩
      have hM9 : Mem B w0 w8 (efix r ro6 :: (gA bx regs mv bm room vo cs (.map (some bt)) (efix bt mo) vK K8 ++ (objsE cs ++ T))) := (Mem.unTail (Mem.drop (Mem.unTail hM8) (List.sublist_cons_self _ _)))
      have HM9 := Lib.hid hM9
      have HK8 := Lib.hid hK8
      clear hM8 hM9 hK8 Hcall
      go_wp2_with fail
      go_roundg c6
      case rel =>
        refine ⟨_, ro6, K8, ?_, HR6.out, HM9.out⟩
        have h1 := HK8.out
        rw [Hcs.out] at h1
        refine (HK.out.trans h1).congr fun v => ?_
        constructor
        · rintro ((h | ⟨p, h2, h3, h4⟩) | h)
          · exact .inl h
          · exact .inr ⟨p, h2, by simp [h3], h4⟩
          · obtain rfl : v = y := by simpa using h
            exact .inr ⟨((i : Int), (k : Int)), Hrp.out, by simp, by simpa using Hyk.out⟩
        · rintro (h | ⟨p, h2, h3, h4⟩)
          · exact .inl (.inl h)
          · by_cases e : p = ((i : Int), (k : Int))
            · subst e
              right
              have h5 : (objAt os (i : Int))[k]? = some v := by simpa using h4
              rw [Hyk.out] at h5
              cases h5; simp
            · refine .inl (.inr ⟨p, h2, ?_, h4⟩)
              simpa [e] using h3
      case measure => exact hlt6
    · have hMe2 : Mem B w0 wr (gA bx regs mv bm room vo cs (.map (some bt)) (gmap mapCI bt nt (setC x.rem)) vK K ++ (objsE cs ++ T)) := Mem.drop (HMr.out.rangeEnd 5 rfl HR.out) (List.sublist_cons_self _ _)
      have hKk : K = keptG ⟨regs, os, x⟩ := Hki.out K (HK.out.congr fun v => by
        unfold seedL seedG
        refine or_congr Iff.rfl ⟨fun ⟨p, h1, _, h3⟩ => ⟨p, h1, h3⟩, fun ⟨p, h1, h3⟩ => ⟨p, h1, hl0 p (Hrg.out p h1), h3⟩⟩)
      have hKl : K.length = cs.length := by rw [HK.out.len]; exact Hol.out
      have hth := othere_any B w0 wr _ 2 5 vo cs hMe2 (oAt_of (A := gA bx regs mv bm room vo cs (.map (some bt)) (gmap mapCI bt nt (setC x.rem)) vK K) rfl) (by omega)
      have hmem : ∀ y ∈ thereL (conts cs) cs.length, Lives (conts cs) y ∧ y < (cs.length : Int) := fun y hy => by
        obtain ⟨h1, h2⟩ := (mem_thereL (by rw [conts_len]; exact Nat.le_refl _)).1 hy
        exact ⟨h1, h2⟩
      have hnot : ∀ k y, (thereL (conts cs) cs.length)[k]? = some y → y ∉ (thereL (conts cs) cs.length).take k := fun k y h => there_not_earlierG h
      have hTn := thereL_len (conts cs) cs.length
      have hkill : killed (conts cs) (oldL K) = killL (conts cs) (gonesG (oldL K) (thereL (conts cs) cs.length)) := by unfold killed gonesG; rw [conts_len]
      obtain ⟨TL, hTL⟩ : ∃ TL, thereL (conts cs) cs.length = TL := ⟨_, rfl⟩
      rw [hTL] at hth hmem hnot hTn hkill
      obtain ⟨aO, capO, rfl⟩ := hMe2.ptrSlice (oAt_of (A := gA bx regs mv bm room vo cs (.map (some bt)) (gmap mapCI bt nt (setC x.rem)) vK K) (kp := 2) (vo := vo) rfl)
      have Hth := Lib.hid hth
      have Hmem := Lib.hid hmem
      have Hnot := Lib.hid hnot
      have Hkill := Lib.hid hkill
      have HMe := Lib.hid hMe2
      have HKk := Lib.hid hKk
      have HKl := Lib.hid hKl
      clear hth hmem hnot hkill hMe2 hKk hKl hTL HMr HR hl0 hc0 m0 mb
      go_wp2_with fail
      refine Hth.out.mono ?_
      rintro e w2 ⟨vt, rfl, hMt⟩
      obtain ⟨aT, cT, rfl⟩ := hMt.intsSlice 0 rfl
      have hM2 := HMe.out.callMem hMt
      have HM2 := Lib.hid hM2
      obtain ⟨nT, hnT⟩ : ∃ nT, TL.length = nT := ⟨_, rfl⟩
      rw [hnT] at HM2 hTn ⊢
      have HnT := Lib.hid hnT
      clear hM2 hMt hnT Hth HMe
      obtain ⟨n, hn⟩ : ∃ n, cs.length = n := ⟨_, rfl⟩
      rw [hn] at HM2 hlen hTn
      have Hn := Lib.hid hn
      clear hn
      go_wp2_with fail
      go_loopw [4, 47] (fun _ s47 wq => ∃ (k : Nat) (cq : List (Option Oc)), k ≤ nT ∧ s47 = .int .i64 (k : Int) ∧ conts cq = killL (conts cs) (gonesG (oldL K) (TL.take k)) ∧
        Mem B w0 wq (rowI 3 (.slice aT nT cT) TL :: (gA bx regs mv bm room (.slice aO n capO) cq (.map (some bt)) (gmap mapCI bt nt (setC x.rem)) vK K ++ (objsE cq ++ T)))) (fun _ i _ => nT - (intOf i).toNat)
      case atStart => exact ⟨0, cs, Nat.zero_le _, rfl, rfl, HM2.out⟩
      case round =>
        clear HM2
        obtain ⟨k, cq, hk, rfl, hcq, hM⟩ := hrel
        have hql : cq.length = n := by have := congrArg List.length hcq; rw [conts_len, kill_len, conts_len] at this; rw [this]; exact Hn.out
        have Hql := Lib.hid hql
        by_cases hlt : k < nT
        · have e1 : (k : Int) < (nT : Int) := by omega
          obtain ⟨y, hy⟩ := get_some TL k (by rw [HnT.out]; exact hlt)
          obtain ⟨hly, hy1⟩ := Hmem.out y (List.mem_of_getElem? hy)
          have hny := Hnot.out k y hy
          obtain ⟨i, rfl⟩ : ∃ i : Nat, y = (i : Int) := ⟨y.toNat, by have := hly.1; omega⟩
          obtain ⟨gT, capT, hvT, _, bT, cT2, _⟩ := hM.intsAt 0 rfl (by rintro rfl; simp at hy)
          have d0 := cT2 k _ hy
          have haT : aT = some ⟨gT, 0, none⟩ := by cases hvT; rfl
          subst haT
          have htk := take_succ_some _ _ _ hy
          have hiK : i < K.length := by rw [HKl.out, Hn.out]; have h1 := Hn.out; omega
          obtain ⟨bit, hbit⟩ := get_some K i hiK
          obtain ⟨gK, capK, hvK, c4, f4, z4⟩ := hM.boolK 4 rfl hbit
          have hoK := bit_at hbit
          have hnx := gonesG_snoc (oldL K) (TL.take k) (i : Int)
          rw [← htk] at hnx
          have m2 : wr.cell? ⟨bm, 2, none⟩ = some vK := hM.cell 2 rfl 2
          have m0 : wr.cell? ⟨bm, 0, none⟩ = some (.slice aO n capO) := hM.cell 2 rfl 0
          have mb : bm < wr.heap.size := (hM.box 2 rfl).2.1
          rw [hvK] at m2
          have e2 : (i : Int) < (K.length : Int) := by omega
          cases bit with
          | true =>
            rw [if_pos (mem_oldL.2 ⟨by omega, hoK⟩)] at hnx
            have Hnx := Lib.hid hnx
            have HMr := Lib.hid hM
            have Hcq := Lib.hid hcq
            clear hnx hM hcq hql htk hy hny hvT cT2 hly hy1 hbit hoK hvK m0
            go_wp2_with fail
            go_roundw
            case rel => exact ⟨k + 1, cq, by omega, by go_num, by rw [Hnx.out]; exact Hcq.out, HMr.out⟩
            case measure => simp [intOf]; omega
          | false =>
            rw [if_neg (fun h => by rw [(mem_oldL.1 h).2] at hoK; cases hoK)] at hnx
            obtain ⟨F, hF⟩ : ∃ F, gonesG (oldL K) (TL.take k) = F := ⟨_, rfl⟩
            rw [hF] at hcq hnx
            have hiF : (i : Int) ∉ F := by rw [← hF]; exact fun h => hny (List.mem_filter.1 h).1
            have hF0 : ∀ q ∈ F, 0 ≤ q := by
              intro q hq
              rw [← hF] at hq
              exact (Hmem.out q (List.mem_of_mem_take (List.mem_filter.1 hq).1)).1.1
            have hob := hly.obj
            rw [Int.toNat_natCast] at hob
            have hoq : (conts cq)[i]? = some (some (objAt (conts cs) (i : Int))) := by
              rw [hcq, kill_get _ _ hF0, if_neg (fun h => hiF h.1)]; exact hob
            obtain ⟨o, ho, _⟩ := conts_get hoq
            have O := oAt_of (A := rowI 3 (.slice (some ⟨gT, 0, none⟩) nT cT) TL :: gA bx regs mv bm room (.slice aO n capO) cq (.map (some bt)) (gmap mapCI bt nt (setC x.rem)) vK K) (kp := 3) (vo := .slice aO n capO) (cs := cq) (R := T) rfl
            obtain ⟨g, cap2, hvo, q0, q1, q2⟩ := hM.ptrAt O ho
            injection hvo with h1 h2 h3
            subst h1 h3
            unfold ptrO at q0
            simp only at q0
            have e3 : (i : Int) < (n : Int) := by have := (List.getElem?_eq_some_iff.1 ho).1; omega
            rw [← hql] at hM
            have hM1 := hM.setRow (n := cq.length) 3 rfl i (.pointer none)
            obtain ⟨W1, hW1⟩ : ∃ W1, wr.setCell ⟨g, i, none⟩ (.pointer none) = W1 := ⟨_, rfl⟩
            rw [hW1] at hM1
            have hM3 := objs_take (A := [rowI 3 (.slice (some ⟨gT, 0, none⟩) nT cT) TL, mbox bx regs mv, ebox bm #[.slice (some ⟨g, 0, none⟩) cq.length capO, .pointer (some ⟨bx, 0, none⟩), vK, .map (some bt), .int .i64 room] 122, erow 101 1 (.slice (some ⟨g, 0, none⟩) cq.length capO) cq.length ((cq.map ptrO).set i (.pointer none)), rowK vK K, gmap mapCI bt nt (setC x.rem)]) ho (hM1.cast rfl)
            have e4 : erow 101 1 (.slice (some ⟨g, 0, none⟩) cq.length capO) cq.length ((cq.map ptrO).set i (.pointer none)) = rowP (.slice (some ⟨g, 0, none⟩) cq.length capO) (cq.set i none) := by
              unfold rowP; rw [List.length_set, List.map_set]; rfl
            rw [e4, hql] at hM3
            have hcq2 : conts (cq.set i none) = killL (conts cs) (F ++ [(i : Int)]) := by rw [conts_nilG, hcq, killL_snocG, Int.toNat_natCast]
            have Hnx := Lib.hid hnx
            have HM4 := Lib.hid hM3
            have HW1 := Lib.hid hW1
            have Hcq2 := Lib.hid hcq2
            clear hnx hql hM hM1 hM3 hW1 e4 hcq2 hcq O ho hoq hob hly hF0 hiF hF htk hy hny hvT cT2 hy1 h2 hbit hoK hvK
            go_wp2_with fail
            rw [HW1.out]
            go_wp2_with fail
            go_roundw
            case rel =>
              refine ⟨k + 1, cq.set i none, by omega, by go_num, by rw [Hnx.out]; exact Hcq2.out, ?_⟩
              exact HM4.out.drop (List.Sublist.append_left (List.Sublist.append_left (List.sublist_cons_self _ _) _) (_ :: gA bx regs mv bm room _ (cq.set i none) _ _ _ _))
            case measure => simp [intOf]; omega
        · obtain rfl : k = nT := by omega
          have hall := hcq
          rw [← HnT.out, List.take_length, ← Hkill.out] at hall
          have Hall := Lib.hid hall
          have HM8 := Lib.hid hM
          have m3 : wr.cell? ⟨bm, 3, none⟩ = some (.map (some bt)) := hM.cell 2 rfl 3
          have mb : bm < wr.heap.size := (hM.box 2 rfl).2.1
          clear hall hcq hM
          go_wp2_with (first
            | (refine Mem.wp_clearG (M := mapCI) rfl _ rfl HM8.out 5 rfl rfl ?_
               intro w9 hM9 hs9
               have HM9 := Lib.hid hM9
               clear hM9)
            | fail)
          refine bodyPost_end (results_none rfl _ _ _) rfl ⟨rfl, ?_⟩
          have hM9 := Mem.drop HM9.out (List.sublist_cons_self _ _)
          refine ⟨.slice aO n capO, cq, bt, nt, vK, ?_, Hnt.out, ?_⟩
          · rw [Hall.out, Hcs.out, HKk.out]; rfl
          · show Mem B w0 w9 (gA bx regs mv bm room (.slice aO n capO) cq (.map (some bt)) (gmap mapCI bt nt (setC (fun _ => false))) vK (keptG ⟨regs, os, x⟩) ++ (objsE cq ++ T))
            rw [setC_no, ← HKk.out]
            exact hM9
end
end Go.Proofs.Ytmmcjjklmcfegaa

/- A memory with young and old: major, walked. -/
namespace Go.Proofs.Ytmmcjjklmcfegaa
open Go.RowKit Go.Shelf

theorem oA_ext {a b : List Bool} (hl : a.length = b.length) (h : ∀ i : Int, 0 ≤ i → (oA a i = true ↔ oA b i = true)) : a = b := by
  refine List.ext_getElem? fun i => ?_
  by_cases hi : i < a.length
  · have h1 := h (i : Int) (by omega)
    rw [oA_get, oA_get] at h1
    rw [List.getElem?_eq_getElem hi, List.getElem?_eq_getElem (by omega)] at h1 ⊢
    cases hx : a[i] with
    | true => rw [hx] at h1; rw [h1.1 rfl]
    | false =>
      cases hy : b[i]'(by omega) with
      | true => rw [hx, hy] at h1; have := h1.2 rfl; simp at this
      | false => rfl
  · rw [List.getElem?_eq_none (by omega), List.getElem?_eq_none (by omega)]
theorem oA_no (n : Nat) (i : Int) : oA (List.replicate n false) i = false := by
  unfold oA
  rw [List.getD_eq_getElem?_getD, List.getElem?_replicate]
  split <;> rfl
/-- What is seen is what can be come to. -/
theorem InvG.seen {room : Int} {s : Sm Gx} (h : InvG room s) {K : List Bool} {n : Nat} (hK : KeepR s.os (fun v => v ∈ s.regs) (List.replicate n false) K) {i : Int} (h0 : 0 ≤ i) : oA K i = true ↔ i ∈ foundL s.regs s.os := by
  rw [foundL_leads h.fine (by have := h.len; omega) (fun _ hi => h.led hi) i]
  constructor
  · intro hi
    rcases hK.sound i h0 hi with h1 | h1
    · rw [oA_no] at h1; cases h1
    · have : RchM s.regs s.os i ∧ 0 ≤ i := by
        refine h1.least (P := fun i => RchM s.regs s.os i ∧ 0 ≤ i) (fun v hv hr _ => ⟨.root hv hr, ((h.fine.regs v hv).1 hr).1⟩) (fun j hj v hv hr _ => ?_)
        have hl := h.led hj.1
        exact ⟨.step hj.1 hl.obj hv hr, (h.clo j hl v hv hr).1⟩
      exact this.1
  · intro hi
    have : oA K i = true ∧ Lives s.os i := by
      refine hi.least (P := fun i => oA K i = true ∧ Lives s.os i) (fun v hv hr => ⟨hK.root v hv hr, (h.fine.regs v hv).1 hr⟩) (fun j l hj hl v hv hr => ?_)
      have ho : objAt s.os j = l := by unfold objAt; rw [hl]; rfl
      have hv' : v ∈ objAt s.os j := by rw [ho]; exact hv
      exact ⟨hK.closed j hj.2.1 (oA_no _ _) hj.1 v hv' hr, h.clo j hj.2 v hv' hr⟩
    exact this.1
/-- Who is old while all are made so. -/
def Mk (o : List Bool) (l : List Int) (K : List Bool) : Prop := K.length = o.length ∧ ∀ i : Int, 0 ≤ i → (oA K i = true ↔ oA o i = true ∨ i ∈ l)
theorem Mk.nil (o : List Bool) : Mk o [] o := ⟨rfl, fun i _ => by simp⟩
theorem Mk.snoc {o : List Bool} {l : List Int} {K : List Bool} (h : Mk o l K) {y : Int} (h0 : 0 ≤ y) (hl : y < o.length) : Mk o (l ++ [y]) (K.set y.toNat true) := by
  refine ⟨by rw [List.length_set]; exact h.1, fun i hi => ?_⟩
  rw [oA_set K h0 (by rw [h.1]; exact hl) hi, List.mem_append, List.mem_singleton]
  split
  · rename_i e; simp [e]
  · rename_i e; rw [h.2 i hi]; simp [e]
section
variable (B : Nat) (w0 : World) (bx : Nat) (regs : List V) (mv : Value) (bm : Nat) (room : Int)
set_option maxRecDepth 100000 in
set_option maxHeartbeats 8000000 in
theorem major_any (T : List Ent) (w : World) (os : Os) (x : Gx) (hI : InvG room ⟨regs, os, x⟩) (hC : GM B w0 bx regs mv bm room os x T w) :
    Calls Try.prog 54 #[.pointer (some ⟨bm, 0, none⟩)] w fun e w' => e = .returned (.tuple #[]) ∧ GM B w0 bx regs mv bm room (majorS ⟨regs, os, x⟩).os (majorS ⟨regs, os, x⟩).x T w' := by
  obtain ⟨vo, cs, bt, nt, vK, hcs, hnt, hM⟩ := hC
  have hlen : cs.length ≤ 900 := by have := hI.len; rw [← hcs, conts_len] at this; exact this
  have hol : x.old.length = cs.length := by have := hI.olen; rw [← hcs, conts_len] at this; exact this
  have hobk := hI.obK (cs := cs) hcs
  have h8 := hI.fine.regs8
  have hro := hI.regsOk
  have m0 : w.cell? ⟨bm, 0, none⟩ = some vo := hM.cell 1 rfl 0
  have m1 : w.cell? ⟨bm, 1, none⟩ = some (.pointer (some ⟨bx, 0, none⟩)) := hM.cell 1 rfl 1
  have mb : bm < w.heap.size := (hM.box 1 rfl).2.1
  have xb : bx < w.heap.size := (hM.box 0 rfl).2.1
  have hMd := Mem.drew hM
  have hrc := reached_any B w0 _ 2 5 vo cs w.drew hMd (oAt_of (A := gA bx regs mv bm room vo cs (.map (some bt)) (gmap mapCI bt nt (setC x.rem)) vK x.old) rfl) hobk (by omega) (.slice (some ⟨bx, 0, none⟩) 8 8) regs (isVals_mbox hMd 0 rfl h8 hro) (fun v hv hr => by rw [hcs]; exact (hI.fine.regs v hv).1 hr)
  have hseen : ∀ (K : List Bool) (n : Nat), KeepR os (fun v => v ∈ regs) (List.replicate n false) K → ∀ i : Int, 0 ≤ i → (oA K i = true ↔ i ∈ foundL regs os) := fun K n hK i h0 => hI.seen hK h0
  have Hrc := Lib.hid hrc
  have Hcs := Lib.hid hcs
  have Hnt := Lib.hid hnt
  have Hol := Lib.hid hol
  have Hseen := Lib.hid hseen
  have HM := Lib.hid hMd
  clear hrc hI hcs hnt hol hobk hMd hM h8 hro hseen
  go_enter Try.func54, Try.ntmps54
  go_wp2_with fail
  go_still_tail 10, (by kernel_rfl)
  go_wp2_with fail
  refine Hrc.out.mono ?_
  rintro e w1 ⟨vS, KS, rfl, hKS, hMS⟩
  have hM1 : Mem B w0 w1 ((rowK vS KS :: gA bx regs mv bm room vo cs (.map (some bt)) (gmap mapCI bt nt (setC x.rem)) vK x.old) ++ (objsE cs ++ T)) := HM.out.callMem hMS
  obtain ⟨aS, cS, rfl⟩ := hM1.sliceK 0 rfl
  have y0 : w1.cell? ⟨bm, 0, none⟩ = some vo := hM1.cell 2 rfl 0
  have yb : bm < w1.heap.size := (hM1.box 2 rfl).2.1
  have hth := othere_any B w0 w1 _ 3 6 vo cs hM1 (oAt_of (A := rowK (.slice aS KS.length cS) KS :: gA bx regs mv bm room vo cs (.map (some bt)) (gmap mapCI bt nt (setC x.rem)) vK x.old) rfl) (by omega)
  have hmem : ∀ y ∈ thereL (conts cs) cs.length, Lives (conts cs) y ∧ y < (cs.length : Int) := fun y hy => by
    obtain ⟨h1, h2⟩ := (mem_thereL (by rw [conts_len]; exact Nat.le_refl _)).1 hy
    exact ⟨h1, h2⟩
  have hnot : ∀ k y, (thereL (conts cs) cs.length)[k]? = some y → y ∉ (thereL (conts cs) cs.length).take k := fun k y h => there_not_earlierG h
  have hTn := thereL_len (conts cs) cs.length
  obtain ⟨L, hL⟩ : ∃ L, foundL regs os = L := ⟨_, rfl⟩
  have hkill : killed (conts cs) L = killL (conts cs) (gonesG L (thereL (conts cs) cs.length)) := by unfold killed gonesG; rw [conts_len]
  have hall : ∀ i, Lives (conts cs) i ↔ i ∈ thereL (conts cs) cs.length := fun i => by
    rw [mem_thereL (by rw [conts_len]; exact Nat.le_refl _)]
    exact ⟨fun h => ⟨h, by have := lives_rng h; rw [conts_len] at this; exact this.2⟩, fun h => h.1⟩
  obtain ⟨TL, hTL⟩ : ∃ TL, thereL (conts cs) cs.length = TL := ⟨_, rfl⟩
  rw [hTL] at hth hmem hnot hTn hkill hall
  obtain ⟨aO, capO, rfl⟩ := hM1.ptrSlice (oAt_of (A := rowK (.slice aS KS.length cS) KS :: gA bx regs mv bm room vo cs (.map (some bt)) (gmap mapCI bt nt (setC x.rem)) vK x.old) (kp := 3) (vo := vo) rfl)
  have hSn : KS.length = cs.length := by rw [hKS.len]; simp
  have hSb : ∀ i : Int, 0 ≤ i → (oA KS i = true ↔ i ∈ L) := by
    rw [Hcs.out] at hKS
    rw [← hL]
    exact Hseen.out KS _ hKS
  have Hth := Lib.hid hth
  have Hmem := Lib.hid hmem
  have Hnot := Lib.hid hnot
  have Hkill := Lib.hid hkill
  have Hall := Lib.hid hall
  have HM1 := Lib.hid hM1
  have HL := Lib.hid hL
  have HSn := Lib.hid hSn
  have HSb := Lib.hid hSb
  clear hth hmem hnot hkill hall hM1 hMS hTL hL hKS hSn hSb Hrc HM m0 m1 mb xb
  go_wp2_with fail
  refine Hth.out.mono ?_
  rintro e w2 ⟨vt, rfl, hMt⟩
  obtain ⟨aT, cT, rfl⟩ := hMt.intsSlice 0 rfl
  have hM2 := HM1.out.callMem hMt
  have HM2 := Lib.hid hM2
  obtain ⟨nT, hnT⟩ : ∃ nT, TL.length = nT := ⟨_, rfl⟩
  rw [hnT] at HM2 hTn ⊢
  have HnT := Lib.hid hnT
  clear hM2 hMt hnT Hth HM1 y0 yb
  obtain ⟨n, hn⟩ : ∃ n, cs.length = n := ⟨_, rfl⟩
  rw [hn] at HM2 hlen hTn
  have Hn := Lib.hid hn
  clear hn
  go_wp2_with fail
  go_loopw [4, 22] (fun _ s22 wq => ∃ (k : Nat) (cq : List (Option Oc)) (K : List Bool), k ≤ nT ∧ s22 = .int .i64 (k : Int) ∧ conts cq = killL (conts cs) (gonesG L (TL.take k)) ∧ Mk x.old (TL.take k) K ∧
    Mem B w0 wq (rowI 3 (.slice aT nT cT) TL :: rowK (.slice aS KS.length cS) KS :: (gA bx regs mv bm room (.slice aO n capO) cq (.map (some bt)) (gmap mapCI bt nt (setC x.rem)) vK K ++ (objsE cq ++ T)))) (fun _ i _ => nT - (intOf i).toNat)
  case atStart => exact ⟨0, cs, x.old, Nat.zero_le _, rfl, rfl, Mk.nil _, HM2.out⟩
  case round =>
    clear HM2
    obtain ⟨k, cq, K, hk, rfl, hcq, hK, hM⟩ := hrel
    have hql : cq.length = n := by have := congrArg List.length hcq; rw [conts_len, kill_len, conts_len] at this; rw [this]; exact Hn.out
    have Hql := Lib.hid hql
    by_cases hlt : k < nT
    · have e1 : (k : Int) < (nT : Int) := by omega
      obtain ⟨y, hy⟩ := get_some TL k (by rw [HnT.out]; exact hlt)
      obtain ⟨hly, hy1⟩ := Hmem.out y (List.mem_of_getElem? hy)
      have hny := Hnot.out k y hy
      obtain ⟨i, rfl⟩ : ∃ i : Nat, y = (i : Int) := ⟨y.toNat, by have := hly.1; omega⟩
      obtain ⟨gT, capT, hvT, _, bT, cT2, _⟩ := hM.intsAt 0 rfl (by rintro rfl; simp at hy)
      have d0 := cT2 k _ hy
      have haT : aT = some ⟨gT, 0, none⟩ := by cases hvT; rfl
      subst haT
      have htk := take_succ_some _ _ _ hy
      have hin : i < n := by have h1 := Hn.out; omega
      have hKl : K.length = n := by rw [hK.1, Hol.out]; exact Hn.out
      obtain ⟨bit, hbit⟩ := get_some K i (by omega)
      obtain ⟨gK, capK, hvK, c4, f4, z4⟩ := hM.boolK 5 rfl hbit
      obtain ⟨bs, hbs⟩ := get_some KS i (by rw [HSn.out, Hn.out]; exact hin)
      have hoS := bit_at hbs
      have hiL := HSb.out (i : Int) (by omega)
      rw [hoS] at hiL
      have hnx := gonesG_snoc L (TL.take k) (i : Int)
      have hK2 := hK.snoc (y := (i : Int)) (by omega) (by rw [Hol.out, Hn.out]; omega)
      rw [← htk] at hnx hK2
      rw [Int.toNat_natCast] at hK2
      have m2 : wr.cell? ⟨bm, 2, none⟩ = some vK := hM.cell 3 rfl 2
      have mb : bm < wr.heap.size := (hM.box 3 rfl).2.1
      rw [hvK] at m2 hM
      have e2 : (i : Int) < (K.length : Int) := by omega
      have hM1 : Mem B w0 (wr.setCell ⟨gK, i, none⟩ (.bool true)) (rowI 3 (.slice (some ⟨gT, 0, none⟩) nT cT) TL :: rowK (.slice aS KS.length cS) KS :: (gA bx regs mv bm room (.slice aO n capO) cq (.map (some bt)) (gmap mapCI bt nt (setC x.rem)) (.slice (some ⟨gK, 0, none⟩) K.length capK) (K.set i true) ++ (objsE cq ++ T))) := hM.setK 5 rfl rfl i true
      obtain ⟨W1, hW1⟩ : ∃ W1, wr.setCell ⟨gK, i, none⟩ (.bool true) = W1 := ⟨_, rfl⟩
      rw [hW1] at hM1
      have HW1 := Lib.hid hW1
      obtain ⟨gS, capS, hvS, s4, _, sz⟩ := hM1.boolK 1 rfl hbs
      have haS : aS = some ⟨gS, 0, none⟩ := by cases hvS; rfl
      subst haS
      clear hvS
      have eS : (i : Int) < (KS.length : Int) := by rw [HSn.out, Hn.out]; omega
      have n0 : W1.cell? ⟨bm, 0, none⟩ = some (.slice aO n capO) := hM1.cell 3 rfl 0
      have nb : bm < W1.heap.size := (hM1.box 3 rfl).2.1
      cases bs with
      | true =>
        rw [if_pos (hiL.1 rfl)] at hnx
        have Hnx := Lib.hid hnx
        have HMr := Lib.hid hM1
        have Hcq := Lib.hid hcq
        have HK2 := Lib.hid hK2
        have HvK := Lib.hid hvK
        clear hnx hM hcq hql htk hy hny hvT cT2 hly hy1 hbit hvK n0 hM1 hK2 hK hiL hoS hbs hW1
        go_upto_region 5 with (fail)
        rw [HW1.out]
        go_wp2_with fail
        go_roundw
        case rel => exact ⟨k + 1, cq, K.set i true, by omega, by go_num, by rw [Hnx.out]; exact Hcq.out, HK2.out, by rw [HvK.out]; exact HMr.out⟩
        case measure => simp [intOf]; omega
      | false =>
        rw [if_neg (fun h => by have := hiL.2 h; cases this)] at hnx
        obtain ⟨F, hF⟩ : ∃ F, gonesG L (TL.take k) = F := ⟨_, rfl⟩
        rw [hF] at hcq hnx
        have hiF : (i : Int) ∉ F := by rw [← hF]; exact fun h => hny (List.mem_filter.1 h).1
        have hF0 : ∀ q ∈ F, 0 ≤ q := by
          intro q hq
          rw [← hF] at hq
          exact (Hmem.out q (List.mem_of_mem_take (List.mem_filter.1 hq).1)).1.1
        have hob := hly.obj
        rw [Int.toNat_natCast] at hob
        have hoq : (conts cq)[i]? = some (some (objAt (conts cs) (i : Int))) := by
          rw [hcq, kill_get _ _ hF0, if_neg (fun h => hiF h.1)]; exact hob
        obtain ⟨o, ho, _⟩ := conts_get hoq
        have O := oAt_of (A := rowI 3 (.slice (some ⟨gT, 0, none⟩) nT cT) TL :: rowK (.slice (some ⟨gS, 0, none⟩) KS.length cS) KS :: gA bx regs mv bm room (.slice aO n capO) cq (.map (some bt)) (gmap mapCI bt nt (setC x.rem)) (.slice (some ⟨gK, 0, none⟩) K.length capK) (K.set i true)) (kp := 4) (vo := .slice aO n capO) (cs := cq) (R := T) rfl
        obtain ⟨g, cap2, hvo, q0, q1, q2⟩ := Mem.ptrAt hM1 O ho
        injection hvo with h1 h2 h3
        subst h1 h3
        unfold ptrO at q0
        simp only at q0
        have e3 : (i : Int) < (n : Int) := by omega
        rw [← hql] at hM1
        have hM2 := hM1.setRow (n := cq.length) 4 rfl i (.pointer none)
        obtain ⟨W2, hW2⟩ : ∃ W2, W1.setCell ⟨g, i, none⟩ (.pointer none) = W2 := ⟨_, rfl⟩
        rw [hW2] at hM2
        have hM3 := objs_take (A := [rowI 3 (.slice (some ⟨gT, 0, none⟩) nT cT) TL, rowK (.slice (some ⟨gS, 0, none⟩) KS.length cS) KS, mbox bx regs mv, ebox bm #[.slice (some ⟨g, 0, none⟩) cq.length capO, .pointer (some ⟨bx, 0, none⟩), .slice (some ⟨gK, 0, none⟩) K.length capK, .map (some bt), .int .i64 room] 122, erow 101 1 (.slice (some ⟨g, 0, none⟩) cq.length capO) cq.length ((cq.map ptrO).set i (.pointer none)), rowK (.slice (some ⟨gK, 0, none⟩) K.length capK) (K.set i true), gmap mapCI bt nt (setC x.rem)]) ho (hM2.cast (by rw [hql]; rfl))
        have e4 : erow 101 1 (.slice (some ⟨g, 0, none⟩) cq.length capO) cq.length ((cq.map ptrO).set i (.pointer none)) = rowP (.slice (some ⟨g, 0, none⟩) cq.length capO) (cq.set i none) := by
          unfold rowP; rw [List.length_set, List.map_set]; rfl
        rw [e4, hql] at hM3
        have hcq2 : conts (cq.set i none) = killL (conts cs) (F ++ [(i : Int)]) := by rw [conts_nilG, hcq, killL_snocG, Int.toNat_natCast]
        have Hnx := Lib.hid hnx
        have HM4 := Lib.hid hM3
        have HW2 := Lib.hid hW2
        have Hcq2 := Lib.hid hcq2
        have HK2 := Lib.hid hK2
        have HvK := Lib.hid hvK
        clear hnx hql hM hM1 hM2 hM3 hW1 hW2 e4 hcq2 hcq O ho hoq hob hly hF0 hiF hF htk hy hny hvT cT2 hy1 h2 hbit hvK hK2 hK hiL hoS hbs
        go_upto_region 5 with (fail)
        rw [HW1.out]
        go_wp2_with fail
        rw [HW2.out]
        go_wp2_with fail
        go_roundw
        case rel =>
          refine ⟨k + 1, cq.set i none, K.set i true, by omega, by go_num, by rw [Hnx.out]; exact Hcq2.out, HK2.out, ?_⟩
          rw [HvK.out]
          exact HM4.out.drop (List.Sublist.append_left (List.Sublist.append_left (List.sublist_cons_self _ _) _) (_ :: _ :: gA bx regs mv bm room _ (cq.set i none) _ _ _ _))
        case measure => simp [intOf]; omega
    · obtain rfl : k = nT := by omega
      have hal := hcq
      rw [← HnT.out, List.take_length, ← Hkill.out] at hal
      have hKe : K = allOld os x.old := by
        rw [← HnT.out, List.take_length] at hK
        refine oA_ext (by rw [hK.1, allOld_len]) fun i h0 => ?_
        rw [hK.2 i h0, allOld_at (by rw [Hol.out, ← Hcs.out, conts_len]) h0, ← Hall.out, Hcs.out]
      have Hal := Lib.hid hal
      have HKe := Lib.hid hKe
      have HM8 := Lib.hid hM
      have m3 : wr.cell? ⟨bm, 3, none⟩ = some (.map (some bt)) := hM.cell 3 rfl 3
      have mb : bm < wr.heap.size := (hM.box 3 rfl).2.1
      clear hal hcq hM hK hKe
      go_wp2_with (first
        | (refine Mem.wp_clearG (M := mapCI) rfl _ rfl HM8.out 6 rfl rfl ?_
           intro w9 hM9 hs9
           have HM9 := Lib.hid hM9
           clear hM9)
        | fail)
      refine bodyPost_end (results_none rfl _ _ _) rfl ⟨rfl, ?_⟩
      have hM9 := Mem.drop (Mem.drop HM9.out (List.sublist_cons_self _ _)) (List.sublist_cons_self _ _)
      refine ⟨.slice aO n capO, cq, bt, nt, vK, ?_, Hnt.out, ?_⟩
      · rw [Hal.out, Hcs.out, ← HL.out]; rfl
      · show Mem B w0 w9 (gA bx regs mv bm room (.slice aO n capO) cq (.map (some bt)) (gmap mapCI bt nt (setC (fun _ => false))) vK (allOld os x.old) ++ (objsE cq ++ T))
        rw [setC_no, ← HKe.out]
        exact hM9
end
end Go.Proofs.Ytmmcjjklmcfegaa

/- A memory with young and old: New, walked; it is a memory. -/
namespace Go.Proofs.Ytmmcjjklmcfegaa
open Go.RowKit Go.Shelf

theorem elemFlagsA : Elem Try.prog 118 4 1 1 (.bool false) := elemFlagsK
theorem Mem.wp_appK {P : Program} {B : Nat} {w0 w : World} {L : List Ent} {t : TypeId} {z : Value} (T : Elem P t 4 1 1 z) {ops : Array Oper} {rest : List Oper} {o : Oper} {ac : Act} {Q : Exit → Act → World → Prop} (hgd : o.guard = none) (s x : Operand)
    (ho : o.op = .call { callee := .builtin .append, args := #[s, x], argTypes := #[t, t] }) (h : Mem B w0 w L) (k : Nat) {v : Value} {l : List Bool} (hk : L[k]? = some (rowK v l))
    (hs : ac.eval s = v) (c : Nat) (y : Bool) (e2 : TypeId) (bl : Nat) (hx : ac.eval x = .slice (some ⟨bl, 0, none⟩) 1 c) (hbl : w.heap.size = bl) (hn : l.length ≤ 1000000)
    (hh : ∀ ad n' cap w', Hid (n' = l.length + 1) → Mem B w0 w' (L.set k (rowK (.slice ad n' cap) (l ++ [y]))) → w.heap.size < w'.heap.size → wpList P ops Q rest (ac.put o.dst (.slice ad n' cap)) w') :
    wpList P ops Q (o :: rest) ac (w.alloc (.cells #[.bool y] e2)) := by
  refine Mem.wp_app1 T hgd s x ho h k hk hs c _ e2 bl hx hbl rfl rfl (by decide) hn ?_
  intro ad cap w' h1 h2 _ _
  refine hh ad _ cap w' (Lib.hid rfl) (h1.cast ?_) h2
  simp [rowK]
section
variable (B : Nat) (w0 : World) (bx : Nat) (regs : List V) (mv : Value) (bm : Nat) (room : Int)
variable {B w0 bx regs mv bm room} in
theorem GM.drew {os : Os} {x : Gx} {T : List Ent} {w : World} (h : GM B w0 bx regs mv bm room os x T w) : GM B w0 bx regs mv bm room os x T w.drew := by
  obtain ⟨vo, cs, bt, nt, vK, h1, h2, h3⟩ := h
  exact ⟨vo, cs, bt, nt, vK, h1, h2, h3.drew⟩
variable {B w0 bx regs mv bm room} in
theorem GM.roomAt {os : Os} {x : Gx} {T : List Ent} {w : World} (h : GM B w0 bx regs mv bm room os x T w) : w.cell? ⟨bm, 4, none⟩ = some (.int .i64 room) := by
  obtain ⟨vo, cs, bt, nt, vK, h1, h2, h3⟩ := h
  exact h3.cell 1 rfl 4
def GNewSays (T : List Ent) (s : Sm Gx) (n : Nat) (e : Ending) (w' : World) : Prop :=
  (((gKd room).new s n).2 = none → e = .returned (.tuple #[.int .i64 0, .int .i64 6]) ∧ GM B w0 bx regs mv bm room ((gKd room).new s n).1.os ((gKd room).new s n).1.x T w') ∧
  (((gKd room).new s n).2 ≠ none → e = .returned (.tuple #[.int .i64 (s.os.length : Int), .int .i64 0]) ∧ GM B w0 bx regs mv bm room ((gKd room).new s n).1.os ((gKd room).new s n).1.x T w')
set_option maxRecDepth 100000 in
set_option maxHeartbeats 8000000 in
theorem gnew_any (T : List Ent) (w : World) (os : Os) (x : Gx) (n : Nat) (hn : n ≤ 4) (hI : InvG room ⟨regs, os, x⟩) (hrm : 1 ≤ room ∧ room ≤ 64) (hC : GM B w0 bx regs mv bm room os x T w) :
    Calls Try.prog 164 #[.pointer (some ⟨bm, 0, none⟩), .int .i64 (n : Int)] w fun e w' => GNewSays B w0 bx regs mv bm room T ⟨regs, os, x⟩ n e w' := by
  -- the state behind the making of room
  obtain ⟨S1, hS1⟩ : ∃ S1, makeRoom room ⟨regs, os, x⟩ = S1 := ⟨_, rfl⟩
  have hI1 : InvG room S1 := by rw [← hS1]; exact hI.mroom (by omega)
  have hL1 : S1.os.length = os.length := by rw [← hS1]; exact makeRoom_len room _
  have hR1 : S1.regs = regs := by rw [← hS1]; exact makeRoom_regs room _
  have hnew : (gKd room).new ⟨regs, os, x⟩ n = if 24 ≤ manyC true S1 then (S1, none) else (pushG S1 n, some (S1.os.length : Int)) := by
    show (if 24 ≤ manyC true (makeRoom room ⟨regs, os, x⟩) then (makeRoom room ⟨regs, os, x⟩, none) else (pushG (makeRoom room ⟨regs, os, x⟩) n, some ((makeRoom room ⟨regs, os, x⟩).os.length : Int))) = _
    rw [hS1]
  have hy := many_any B w0 bx regs mv bm room T w os x false (by have : os.length ≤ 900 := hI.len; omega) hI.olen hC
  have hmr : makeRoom room ⟨regs, os, x⟩ = if room ≤ (manyC false ⟨regs, os, x⟩ : Int) then minorS ⟨regs, os, x⟩ else ⟨regs, os, x⟩ := rfl
  rw [hS1] at hmr
  have hmi := fun w hC => minor_any B w0 bx regs mv bm room T w os x hI hC
  have hmc : manyC false ⟨regs, os, x⟩ ≤ 1000 := by
    have h1 : manyC false (⟨regs, os, x⟩ : Sm Gx) ≤ _ := List.countP_le_length
    have h2 := thereL_len os os.length
    have h3 : os.length ≤ 900 := hI.len
    show manyC false _ ≤ 1000
    have h4 : (thereL os os.length).length ≤ os.length := h2
    exact Nat.le_trans h1 (Nat.le_trans h4 (by omega))
  have hlen0 : os.length ≤ 900 := hI.len
  -- what is left to be done at that state
  have hrest : ∀ (w1 : World), GM B w0 bx regs mv bm room S1.os S1.x T w1 → Calls Try.prog 166 #[.pointer (some ⟨bm, 0, none⟩), .bool true] w1 fun e w' => e = .returned (.int .i64 (manyC true S1 : Int)) ∧ GM B w0 bx regs mv bm room S1.os S1.x T w' := by
    intro w1 h1
    have := many_any B w0 bx regs mv bm room T w1 S1.os S1.x true (by omega) hI1.olen h1
    rw [show (⟨regs, S1.os, S1.x⟩ : Sm Gx) = S1 from by rw [← hR1]] at this
    exact this
  obtain ⟨c, hc⟩ : ∃ c, manyC false (⟨regs, os, x⟩ : Sm Gx) = c := ⟨_, rfl⟩
  obtain ⟨d, hd⟩ : ∃ d, manyC true S1 = d := ⟨_, rfl⟩
  rw [hc] at hy hmr hmc
  rw [hd] at hnew hrest
  obtain ⟨N, hN⟩ : ∃ N, (gKd room).new ⟨regs, os, x⟩ n = N := ⟨_, rfl⟩
  unfold GNewSays
  rw [hN] at hnew ⊢
  have holen := hI1.olen
  have Hy := Lib.hid hy
  have Hmi := Lib.hid hmi
  have Hmr := Lib.hid hmr
  have Hrest := Lib.hid hrest
  have Hnew := Lib.hid hnew
  have Hol := Lib.hid holen
  have HL1 := Lib.hid hL1
  have hyc : ∀ (X : World) (R : Ending → World → Prop), GM B w0 bx regs mv bm room os x T X → (∀ w', GM B w0 bx regs mv bm room os x T w' → R (.returned (.int .i64 (c : Int))) w') → Calls Try.prog 166 #[.pointer (some ⟨bm, 0, none⟩), .bool false] X R := by
    intro X R hX hR
    refine (many_any B w0 bx regs mv bm room T X os x false (by omega) hI.olen hX).mono ?_
    rw [hc]
    rintro e w' ⟨rfl, h⟩
    exact hR w' h
  have Hyc := Lib.hid hyc
  have HC := Lib.hid hC
  clear hS1 hI1 hI hnew hy hmr hmi hrest hc hd hN hR1 hL1 holen hyc hC
  go_enter Try.func164, Try.ntmps164
  go_upto_region 1 with (fail)
  go_cut [4, 5, 12] (fun s4 s5 s12 W => s12 = .bool (decide (room ≤ (c : Int))) ∧ GM B w0 bx regs mv bm room os x T W)
  case first =>
    go_region_held3 (fun X => X.cell? ⟨bm, 4, none⟩ = some (.int .i64 room))
      (first | (apply GM.roomAt; (focus (repeat (first | exact hR | exact HC.out | with_reducible apply GM.drew)))) | fail)
      (first
        | (go_at_call 166
           apply Hyc.out
           (focus (repeat (first | exact HC.out | with_reducible apply GM.drew)))
           intro w5 hR)
        | fail)
    all_goals
      go_wp2_with fail
      go_meet
      refine ⟨by simp, ?_⟩
      (focus (repeat (first | exact hR | with_reducible apply GM.drew)))
  case rest =>
    obtain ⟨rfl, hC1⟩ := hcut
    have HC1 := Lib.hid hC1
    clear hC1 HC Hyc
    by_cases hr : room ≤ (c : Int)
    · have e0 : S1 = minorS ⟨regs, os, x⟩ := by rw [Hmr.out, if_pos hr]
      have E0 := Lib.hid e0
      clear e0
      go_wp2_with fail
      refine (Hmi.out _ HC1.out).mono ?_
      rintro e w2 ⟨rfl, hC2⟩
      have HC3 : Hid (GM B w0 bx regs mv bm room S1.os S1.x T w2) := Lib.hid (by rw [E0.out]; exact hC2)
      clear hC2 HC1
      go_wp2_with fail
      refine (Hrest.out _ HC3.out).mono ?_
      rintro e w4 ⟨rfl, hC4⟩
      have HC4 := Lib.hid hC4
      by_cases hd24 : 24 ≤ d
      · have hd2 : (24 : Int) ≤ (d : Int) := by omega
        have hN : N = (S1, none) := by rw [Hnew.out, if_pos hd24]
        have HN := Lib.hid hN
        clear hN hC4
        go_wp2_with fail
        refine bodyPost_ret (v := .tuple #[.int .i64 0, .int .i64 6]) (by simp [results, Try.results164, go_sem]) rfl ?_
        rw [HN.out]
        exact ⟨fun _ => ⟨rfl, HC4.out⟩, fun h => absurd rfl h⟩
      · have hd2 : ¬ (24 : Int) ≤ (d : Int) := by omega
        have hN : N = (pushG S1 n, some (S1.os.length : Int)) := by rw [Hnew.out, if_neg hd24]
        have HN := Lib.hid hN
        obtain ⟨vo, cs, bt, nt, vK, h1, h2, hM⟩ := hC4
        have hcl : cs.length = S1.os.length := by rw [← h1, conts_len]
        have Hcl := Lib.hid hcl
        have H1 := Lib.hid h1
        have H2 := Lib.hid h2
        obtain ⟨aK, cK, rfl⟩ := hM.sliceK 3 rfl
        have m2 : w4.cell? ⟨bm, 2, none⟩ = some (.slice aK S1.x.old.length cK) := hM.cell 1 rfl 2
        have mb : bm < w4.heap.size := (hM.box 1 rfl).2.1
        have hgl : S1.x.old.length ≤ 1000000 := by rw [Hol.out, HL1.out]; omega
        have HM := Lib.hid hM
        clear hN h1 h2 hM HC3 HC4 hcl
        go_upto_region 5 with (fail)
        go_upto_region 6 with (at_builtin; refine Mem.wp_appK elemFlagsK rfl (.tmp 22) (.tmp 23) rfl HM.out 3 rfl rfl _ false _ _ rfl (by simp) hgl ?_; intro ad n1 cp w5 hn1 hM5 hs5; have y2 : w5.cell? ⟨bm, 2, none⟩ = some (.slice aK S1.x.old.length cK) := hM5.cell 1 rfl 2; have f2 : w5.frozen? ⟨bm, 2, none⟩ = false := hM5.free 1 rfl 2; have yb : bm < w5.heap.size := (hM5.box 1 rfl).2.1; have hM6 := Lib.hid (hM5.setBox 1 rfl 2 (.slice ad n1 cp)))
        obtain ⟨W6, hW6⟩ : ∃ W6, w5.setCell ⟨bm, 2, none⟩ (.slice ad n1 cp) = W6 := ⟨_, rfl⟩
        rw [hW6] at hM6 ⊢
        have hM7 : Mem B w0 W6 (gA bx regs mv bm room vo cs (.map (some bt)) (gmap mapCI bt nt (setC S1.x.rem)) (.slice ad n1 cp) (S1.x.old ++ [false]) ++ (objsE cs ++ T)) := hM6.out
        have hnw := onew_any B w0 W6 _ 1 2 5 bm #[vo, .pointer (some ⟨bx, 0, none⟩), .slice ad n1 cp, .map (some bt), .int .i64 room] 122 vo cs hM7 (oAt_of (A := gA bx regs mv bm room vo cs (.map (some bt)) (gmap mapCI bt nt (setC S1.x.rem)) (.slice ad n1 cp) (S1.x.old ++ [false])) rfl) rfl rfl (by decide) n hn (by rw [Hcl.out, HL1.out]; omega)
        have w6b : bm < W6.heap.size := (hM7.box 1 rfl).2.1
        have Hnw := Lib.hid hnw
        clear hnw hM5 hM6 hM7 hW6 y2 f2 yb hn1 m2 mb
        go_wp2_with fail
        refine Hnw.out.mono ?_
        rintro e w7 ⟨b', v', vo', rfl, hM8⟩
        have hM9 : Mem B w0 w7 (gA bx regs mv bm room vo' (cs ++ [some ⟨b', v', zerosV n⟩]) (.map (some bt)) (gmap mapCI bt nt (setC S1.x.rem)) (.slice ad n1 cp) (S1.x.old ++ [false]) ++ (objsE (cs ++ [some ⟨b', v', zerosV n⟩]) ++ T)) := objs_push (c := some ⟨b', v', zerosV n⟩) (hM8.cast rfl)
        have HM9 := Lib.hid hM9
        clear hM8 hM9 Hnw
        go_wp2_with fail
        refine bodyPost_ret (v := .tuple #[.int .i64 (cs.length : Int), .int .i64 0]) (by simp [results, Try.results164, go_sem]) rfl ?_
        rw [HN.out]
        refine ⟨(fun h => by cases h), fun _ => ⟨?_, vo', _, bt, nt, _, ?_, H2.out, HM9.out⟩⟩
        · rw [Hcl.out, HL1.out]
        · show conts (cs ++ [some ⟨b', v', zerosV n⟩]) = S1.os ++ [some (zerosV n)]
          rw [← H1.out]; simp [conts]
    · have e0 : S1 = ⟨regs, os, x⟩ := by rw [Hmr.out, if_neg hr]
      have HC3 : Hid (GM B w0 bx regs mv bm room S1.os S1.x T wc) := Lib.hid (by rw [e0]; exact HC1.out)
      clear e0 HC1
      go_wp2_with fail
      refine (Hrest.out _ HC3.out).mono ?_
      rintro e w4 ⟨rfl, hC4⟩
      have HC4 := Lib.hid hC4
      by_cases hd24 : 24 ≤ d
      · have hd2 : (24 : Int) ≤ (d : Int) := by omega
        have hN : N = (S1, none) := by rw [Hnew.out, if_pos hd24]
        have HN := Lib.hid hN
        clear hN hC4
        go_wp2_with fail
        refine bodyPost_ret (v := .tuple #[.int .i64 0, .int .i64 6]) (by simp [results, Try.results164, go_sem]) rfl ?_
        rw [HN.out]
        exact ⟨fun _ => ⟨rfl, HC4.out⟩, fun h => absurd rfl h⟩
      · have hd2 : ¬ (24 : Int) ≤ (d : Int) := by omega
        have hN : N = (pushG S1 n, some (S1.os.length : Int)) := by rw [Hnew.out, if_neg hd24]
        have HN := Lib.hid hN
        obtain ⟨vo, cs, bt, nt, vK, h1, h2, hM⟩ := hC4
        have hcl : cs.length = S1.os.length := by rw [← h1, conts_len]
        have Hcl := Lib.hid hcl
        have H1 := Lib.hid h1
        have H2 := Lib.hid h2
        obtain ⟨aK, cK, rfl⟩ := hM.sliceK 3 rfl
        have m2 : w4.cell? ⟨bm, 2, none⟩ = some (.slice aK S1.x.old.length cK) := hM.cell 1 rfl 2
        have mb : bm < w4.heap.size := (hM.box 1 rfl).2.1
        have hgl : S1.x.old.length ≤ 1000000 := by rw [Hol.out, HL1.out]; omega
        have HM := Lib.hid hM
        clear hN h1 h2 hM HC3 HC4 hcl
        go_upto_region 5 with (fail)
        go_upto_region 6 with (at_builtin; refine Mem.wp_appK elemFlagsK rfl (.tmp 22) (.tmp 23) rfl HM.out 3 rfl rfl _ false _ _ rfl (by simp) hgl ?_; intro ad n1 cp w5 hn1 hM5 hs5; have y2 : w5.cell? ⟨bm, 2, none⟩ = some (.slice aK S1.x.old.length cK) := hM5.cell 1 rfl 2; have f2 : w5.frozen? ⟨bm, 2, none⟩ = false := hM5.free 1 rfl 2; have yb : bm < w5.heap.size := (hM5.box 1 rfl).2.1; have hM6 := Lib.hid (hM5.setBox 1 rfl 2 (.slice ad n1 cp)))
        obtain ⟨W6, hW6⟩ : ∃ W6, w5.setCell ⟨bm, 2, none⟩ (.slice ad n1 cp) = W6 := ⟨_, rfl⟩
        rw [hW6] at hM6 ⊢
        have hM7 : Mem B w0 W6 (gA bx regs mv bm room vo cs (.map (some bt)) (gmap mapCI bt nt (setC S1.x.rem)) (.slice ad n1 cp) (S1.x.old ++ [false]) ++ (objsE cs ++ T)) := hM6.out
        have hnw := onew_any B w0 W6 _ 1 2 5 bm #[vo, .pointer (some ⟨bx, 0, none⟩), .slice ad n1 cp, .map (some bt), .int .i64 room] 122 vo cs hM7 (oAt_of (A := gA bx regs mv bm room vo cs (.map (some bt)) (gmap mapCI bt nt (setC S1.x.rem)) (.slice ad n1 cp) (S1.x.old ++ [false])) rfl) rfl rfl (by decide) n hn (by rw [Hcl.out, HL1.out]; omega)
        have w6b : bm < W6.heap.size := (hM7.box 1 rfl).2.1
        have Hnw := Lib.hid hnw
        clear hnw hM5 hM6 hM7 hW6 y2 f2 yb hn1 m2 mb
        go_wp2_with fail
        refine Hnw.out.mono ?_
        rintro e w7 ⟨b', v', vo', rfl, hM8⟩
        have hM9 : Mem B w0 w7 (gA bx regs mv bm room vo' (cs ++ [some ⟨b', v', zerosV n⟩]) (.map (some bt)) (gmap mapCI bt nt (setC S1.x.rem)) (.slice ad n1 cp) (S1.x.old ++ [false]) ++ (objsE (cs ++ [some ⟨b', v', zerosV n⟩]) ++ T)) := objs_push (c := some ⟨b', v', zerosV n⟩) (hM8.cast rfl)
        have HM9 := Lib.hid hM9
        clear hM8 hM9 Hnw
        go_wp2_with fail
        refine bodyPost_ret (v := .tuple #[.int .i64 (cs.length : Int), .int .i64 0]) (by simp [results, Try.results164, go_sem]) rfl ?_
        rw [HN.out]
        refine ⟨(fun h => by cases h), fun _ => ⟨?_, vo', _, bt, nt, _, ?_, H2.out, HM9.out⟩⟩
        · rw [Hcl.out, HL1.out]
        · show conts (cs ++ [some ⟨b', v', zerosV n⟩]) = S1.os ++ [some (zerosV n)]
          rw [← H1.out]; simp [conts]
end
end Go.Proofs.Ytmmcjjklmcfegaa

/- A memory with young and old objects is a memory. -/
namespace Go.Proofs.Ytmmcjjklmcfegaa
open Go.RowKit Go.Shelf
def IsG (bm bx : Nat) (room : Int) (os : Os) (x : Gx) (L : List Ent) : Prop := ∃ vo cs bt nt vK, conts cs = os ∧ nt ≤ x.cnt ∧
  L = ebox bm #[vo, .pointer (some ⟨bx, 0, none⟩), vK, .map (some bt), .int .i64 room] 122 :: rowP vo cs :: rowK vK x.old :: gmap mapCI bt nt (setC x.rem) :: objsE cs
def gMv (bm : Nat) : Value := .iface 117 (.pointer (some ⟨bm, 0, none⟩))
/-- What is always so, with room. -/
def InvG' (room : Int) (s : Sm Gx) : Prop := InvG room s ∧ s.x.cnt ≤ 500
section
variable {B : Nat} {w0 : World} {bx bm : Nat} {regs : List V} {mv : Value} {room : Int}
theorem gm_of {os : Os} {x : Gx} {L T : List Ent} {w : World} (h : IsG bm bx room os x L) (hM : HoldsM B w0 bx regs mv L T w) : GM B w0 bx regs mv bm room os x T w := by
  obtain ⟨vo, cs, bt, nt, vK, h1, h2, rfl⟩ := h
  exact ⟨vo, cs, bt, nt, vK, h1, h2, hM⟩
theorem gm_to {os : Os} {x : Gx} {T : List Ent} {w : World} (h : GM B w0 bx regs mv bm room os x T w) : ∃ L, IsG bm bx room os x L ∧ HoldsM B w0 bx regs mv L T w := by
  obtain ⟨vo, cs, bt, nt, vK, h1, h2, h3⟩ := h
  exact ⟨_, ⟨vo, cs, bt, nt, vK, h1, h2, rfl⟩, h3⟩
end
set_option maxRecDepth 100000 in
theorem gLen (k bm : Nat) (vo : Value) (w : World) (h : w.cell? ⟨bm, 0, none⟩ = some vo) :
    (method (k + 1) 117 (.pointer (some ⟨bm, 0, none⟩)) "Len").run Try.prog w = .ok (154, vo) w :=
  method_in (S := 122) (X := 74) (E := 101) (by kernel_rfl) (fun _ _ => by kernel_rfl) Try.underlying74 (fun _ => by kernel_rfl) k bm vo w h
set_option maxRecDepth 100000 in
theorem gGet (k bm : Nat) (vo : Value) (w : World) (h : w.cell? ⟨bm, 0, none⟩ = some vo) :
    (method (k + 1) 117 (.pointer (some ⟨bm, 0, none⟩)) "Get").run Try.prog w = .ok (152, vo) w :=
  method_in (S := 122) (X := 74) (E := 101) (by kernel_rfl) (fun _ _ => by kernel_rfl) Try.underlying74 (fun _ => by kernel_rfl) k bm vo w h
theorem gNew (k bm : Nat) (w : World) :
    (method (k + 1) 117 (.pointer (some ⟨bm, 0, none⟩)) "New").run Try.prog w = .ok (164, .pointer (some ⟨bm, 0, none⟩)) w := by kernel_rfl
theorem gPut (k bm : Nat) (w : World) :
    (method (k + 1) 117 (.pointer (some ⟨bm, 0, none⟩)) "Put").run Try.prog w = .ok (165, .pointer (some ⟨bm, 0, none⟩)) w := by kernel_rfl
theorem gHold (k bm : Nat) (w : World) :
    (method (k + 1) 117 (.pointer (some ⟨bm, 0, none⟩)) "Hold").run Try.prog w = .ok (163, .pointer (some ⟨bm, 0, none⟩)) w := by kernel_rfl
set_option maxRecDepth 100000 in
theorem gface (B : Nat) (w0 : World) (bx bm : Nat) (room : Int) (hrm : 1 ≤ room ∧ room ≤ 64) : Face (gKd room) (IsG bm bx room) (InvG' room) B w0 bx (gMv bm) := by
  refine ⟨fun s h => h.1.fine, fun s v u hI => hI.1.fld, ?_, fun s i k u => rfl, fun s r u => rfl, ?_, ?_, ?_, ?_, ?_, ?_, ?_⟩
  · intro s n
    unfold gKd
    simp only
    split
    · exact makeRoom_regs room s
    · exact makeRoom_regs room s
  · rintro s L i hI hIs hi
    obtain ⟨vo, cs, bt, nt, vK, hc, hnt, rfl⟩ := hIs
    rw [← hc] at hi
    obtain ⟨o, ho, hl⟩ := lives_cs hi
    rw [hc] at hl
    refine ⟨117, _, vo, 154, rfl, fun _ _ => rfl, fun T w h => ?_⟩
    have hM : Mem B w0 w (gA bx s.regs (gMv bm) bm room vo cs (.map (some bt)) (gmap mapCI bt nt (setC s.x.rem)) vK s.x.old ++ (objsE cs ++ T)) := h
    refine ⟨fun k => gLen k bm vo w (hM.cell 1 rfl 0), ?_⟩
    have := olen_any B w0 w _ 2 5 vo cs hM (oAt_of (A := gA bx s.regs (gMv bm) bm room vo cs (.map (some bt)) (gmap mapCI bt nt (setC s.x.rem)) vK s.x.old) rfl) i.toNat o ho
    rw [hl, Int.toNat_of_nonneg hi.1] at this
    exact this
  · rintro s L i k u hI hIs hi hu
    obtain ⟨vo, cs, bt, nt, vK, hc, hnt, rfl⟩ := hIs
    rw [← hc] at hi
    obtain ⟨o, ho, hl⟩ := lives_cs hi
    rw [hc] at hl
    refine ⟨117, _, vo, 152, rfl, fun _ _ => rfl, fun T w h => ?_⟩
    have hM : Mem B w0 w (gA bx s.regs (gMv bm) bm room vo cs (.map (some bt)) (gmap mapCI bt nt (setC s.x.rem)) vK s.x.old ++ (objsE cs ++ T)) := h
    refine ⟨fun k => gGet k bm vo w (hM.cell 1 rfl 0), ?_⟩
    have := oget_any B w0 w _ 2 5 vo cs hM (oAt_of (A := gA bx s.regs (gMv bm) bm room vo cs (.map (some bt)) (gmap mapCI bt nt (setC s.x.rem)) vK s.x.old) rfl) i.toNat o ho k u (by rw [hl]; exact hu)
    rw [Int.toNat_of_nonneg hi.1] at this
    exact this
  · intro s L i k u hI hL hi hk hu
    refine ⟨117, _, _, 165, rfl, fun _ _ => rfl, fun T w h => ⟨fun k => gPut k bm w, ?_⟩⟩
    have hi' := Int.toNat_of_nonneg hi.1
    have hk4 : (objAt s.os i).length ≤ 4 := hI.1.fine.flen _ _ hi.obj
    have hp := gput_any B w0 bx s.regs (gMv bm) bm room T w s.os s.x i.toNat k u (by rw [hi']; exact hi) (by rw [hi']; exact hk) (by omega) (by have := hI.1.len; omega) hI.1.olen hu.1 (by have := hI.2; omega) (gm_of hL h)
    rw [hi'] at hp
    refine hp.mono ?_
    rintro e w' ⟨rfl, h2⟩
    exact ⟨rfl, gm_to h2⟩
  · intro s L r u hI hL hr hu
    refine ⟨117, _, _, 163, rfl, fun _ _ => rfl, fun T w h => ⟨fun k => gHold k bm w, ?_⟩⟩
    refine (ghold_any B w0 bx s.regs (gMv bm) bm room T w s.os s.x r u (gm_of hL h)).mono ?_
    rintro e w' ⟨rfl, h2⟩
    exact ⟨rfl, gm_to h2⟩
  · intro s L n hI hL hn he
    refine ⟨117, _, _, 164, rfl, fun _ _ => rfl, fun T w h => ⟨fun k => gNew k bm w, ?_⟩⟩
    refine (gnew_any B w0 bx s.regs (gMv bm) bm room T w s.os s.x n hn hI.1 hrm (gm_of hL h)).mono ?_
    intro e w' h2
    obtain ⟨h3, h4⟩ := h2.1 he
    exact ⟨h3, gm_to h4⟩
  · intro s L n o hI hL hn he
    refine ⟨117, _, _, 164, rfl, fun _ _ => rfl, fun T w h => ⟨fun k => gNew k bm w, ?_⟩⟩
    have ho : o = (s.os.length : Int) := by
      unfold gKd at he
      simp only at he
      split at he
      · cases he
      · have := Option.some.inj he
        rw [← this, makeRoom_len]
    refine (gnew_any B w0 bx s.regs (gMv bm) bm room T w s.os s.x n hn hI.1 hrm (gm_of hL h)).mono ?_
    intro e w' h2
    obtain ⟨h3, h4⟩ := h2.2 (by rw [he]; intro h; cases h)
    exact ⟨by rw [h3, ho], gm_to h4⟩
  · intro s n o L1 r hI hn he hL hr8
    refine ⟨117, _, _, 163, rfl, fun _ _ => rfl, fun T w h => ⟨fun k => gHold k bm w, ?_⟩⟩
    refine (ghold_any B w0 bx s.regs (gMv bm) bm room T w _ _ r ⟨true, o⟩ (gm_of hL h)).mono ?_
    rintro e w' ⟨rfl, h2⟩
    exact ⟨rfl, gm_to h2⟩
end Go.Proofs.Ytmmcjjklmcfegaa
