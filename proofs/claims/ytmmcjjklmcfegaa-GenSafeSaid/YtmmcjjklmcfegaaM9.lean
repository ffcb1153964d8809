/- Objects by number as they lie: a row of pointers; for each a box, and a row of its fields. Len, Get, There. -/
import Derived.Test.YtmmcjjklmcfegaaM8
import Derived.Test.YtmmcjjklmcfegaaBase1
namespace Go.Proofs.Ytmmcjjklmcfegaa
open Go.RowKit Go.Shelf

structure Oc where
  b : Nat
  v : Value
  l : List V
def ptrO : Option Oc → Value
  | none => .pointer none
  | some o => .pointer (some ⟨o.b, 0, none⟩)
def boxO : Option Oc → Ent
  | none => enone
  | some o => ebox o.b #[o.v] 94
def rowO : Option Oc → Ent
  | none => enone
  | some o => rowV 80 o.v o.l
def rowP (v : Value) (cs : List (Option Oc)) : Ent := erow 101 1 v cs.length (cs.map ptrO)
def objsE (cs : List (Option Oc)) : List Ent := cs.map boxO ++ cs.map rowO
def conts (cs : List (Option Oc)) : Os := cs.map (Option.map Oc.l)
theorem conts_len (cs : List (Option Oc)) : (conts cs).length = cs.length := by simp [conts]
theorem conts_get {cs : List (Option Oc)} {i : Nat} {l : List V} (h : (conts cs)[i]? = some (some l)) : ∃ o, cs[i]? = some (some o) ∧ o.l = l := by
  unfold conts at h
  rw [List.getElem?_map] at h
  obtain ⟨c, h1, h2⟩ := Option.map_eq_some_iff.1 h
  cases c with
  | none => cases h2
  | some o => cases h2; exact ⟨o, h1, rfl⟩
theorem conts_at {cs : List (Option Oc)} {i : Nat} {o : Oc} (h : cs[i]? = some (some o)) : (conts cs)[i]? = some (some o.l) := by unfold conts; rw [List.getElem?_map, h]; rfl
theorem objsE_len (cs : List (Option Oc)) : (objsE cs).length = cs.length + cs.length := by simp [objsE]
/-- Where objects stand among what is owned. -/
structure OAt (L : List Ent) (kp k0 : Nat) (vo : Value) (cs : List (Option Oc)) : Prop where
  p : L[kp]? = some (rowP vo cs)
  b : ∀ (i : Nat) (c : Option Oc), cs[i]? = some c → L[k0 + i]? = some (boxO c)
  r : ∀ (i : Nat) (c : Option Oc), cs[i]? = some c → L[k0 + cs.length + i]? = some (rowO c)
theorem oAt_of {A R : List Ent} {kp : Nat} {vo : Value} {cs : List (Option Oc)} (hp : (A ++ (objsE cs ++ R))[kp]? = some (rowP vo cs)) : OAt (A ++ (objsE cs ++ R)) kp A.length vo cs := by
  refine ⟨hp, fun i c h => ?_, fun i c h => ?_⟩
  · have hi : i < cs.length := (List.getElem?_eq_some_iff.1 h).1
    rw [List.getElem?_append_right (by omega), show A.length + i - A.length = i by omega, List.getElem?_append_left (by rw [objsE_len]; omega)]
    unfold objsE
    rw [List.getElem?_append_left (by simpa using hi), List.getElem?_map, h]; rfl
  · have hi : i < cs.length := (List.getElem?_eq_some_iff.1 h).1
    rw [List.getElem?_append_right (by omega), show A.length + cs.length + i - A.length = cs.length + i by omega, List.getElem?_append_left (by rw [objsE_len]; omega)]
    unfold objsE
    rw [List.getElem?_append_right (by simp), List.length_map, show cs.length + i - cs.length = i by omega, List.getElem?_map, h]; rfl
section
variable {B : Nat} {w0 w : World} {L : List Ent} {kp k0 : Nat} {vo : Value} {cs : List (Option Oc)}
theorem Mem.ptrSlice (h : Mem B w0 w L) (O : OAt L kp k0 vo cs) : ∃ a cap, vo = .slice a cs.length cap := by
  have hr : w.ownsRow B 101 1 vo cs.length (cs.map ptrO) := h.row kp O.p
  rcases hr.2 with ⟨h1, h0⟩ | ⟨g, cap, cur, rfl, hB, hg, _⟩
  · exact ⟨none, 0, by rw [h1, h0]⟩
  · exact ⟨_, _, rfl⟩
theorem Mem.ptrAt (h : Mem B w0 w L) (O : OAt L kp k0 vo cs) {i : Nat} {c : Option Oc} (hi : cs[i]? = some c) :
    ∃ g cap, vo = .slice (some ⟨g, 0, none⟩) cs.length cap ∧ w.cell? ⟨g, i, none⟩ = some (ptrO c) ∧ w.frozen? ⟨g, i, none⟩ = false ∧ g < w.heap.size := by
  have hr : w.ownsRow B 101 1 vo cs.length (cs.map ptrO) := h.row kp O.p
  have hlt : i < cs.length := (List.getElem?_eq_some_iff.1 hi).1
  rcases hr.2 with ⟨_, h0⟩ | ⟨g, cap, cur, rfl, hB, hg, _⟩
  · omega
  · refine ⟨g, cap, rfl, ?_, hr.frozenAt i, (Array.getElem?_eq_some_iff.1 hg).1⟩
    rw [hr.cellAt i (by omega), List.getElem?_map, hi]; rfl
theorem Mem.objAt (h : Mem B w0 w L) (O : OAt L kp k0 vo cs) {i : Nat} {o : Oc} (hi : cs[i]? = some (some o)) : w.cell? ⟨o.b, 0, none⟩ = some o.v ∧ o.b < w.heap.size ∧ ∃ a cap, o.v = .slice a o.l.length cap := by
  have hb : L[k0 + i]? = some (ebox o.b #[o.v] 94) := O.b i _ hi
  refine ⟨h.cell _ hb 0, (h.box _ hb).2.1, ?_⟩
  have hr : w.ownsRow B 80 2 o.v o.l.length (o.l.flatMap cellsV) := h.row _ (O.r i _ hi)
  rcases hr.2 with ⟨h1, h0⟩ | ⟨g, cap, cur, h2, hB, hg, _⟩
  · exact ⟨none, 0, by rw [h1, h0]⟩
  · exact ⟨_, _, h2⟩
/-- A value in a row of the call's own. -/
theorem Mem.valAt (h : Mem B w0 w L) (k : Nat) {e : TypeId} {v : Value} {l : List V} (hk : L[k]? = some (rowV e v l)) {j : Nat} {x : V} (hx : l[j]? = some x) :
    ∃ g cap, v = .slice (some ⟨g, 0, none⟩) l.length cap ∧ w.cell? ⟨g, j * 2, none⟩ = some (.bool x.ref) ∧ w.cell? ⟨g, j * 2 + 1, none⟩ = some (.int .i64 x.n) ∧ (∀ i, w.frozen? ⟨g, i, none⟩ = false) ∧ g < w.heap.size := by
  have hr := h.ownV k hk
  have hlt : j < l.length := (List.getElem?_eq_some_iff.1 hx).1
  obtain ⟨h1, h2⟩ := getElem_cellsV l j x hx
  rcases hr.2 with ⟨_, h0⟩ | ⟨g, cap, cur, rfl, hB, hg, _⟩
  · omega
  · refine ⟨g, cap, rfl, ?_, ?_, fun i => hr.frozenAt i, (Array.getElem?_eq_some_iff.1 hg).1⟩
    · rw [hr.cellAt _ (by omega)]; exact h1
    · rw [hr.cellAt _ (by omega)]; exact h2
end
set_option maxRecDepth 100000 in
theorem olen_any (B : Nat) (w0 w : World) (L : List Ent) (kp k0 : Nat) (vo : Value) (cs : List (Option Oc)) (hM : Mem B w0 w L) (O : OAt L kp k0 vo cs) (i : Nat) (o : Oc) (hi : cs[i]? = some (some o)) :
    Calls Try.prog 154 #[vo, .int .i64 i] w fun e w' => e = .returned (.int .i64 (o.l.length : Int)) ∧ w' = w := by
  obtain ⟨g, cap, rfl, p0, _, pb⟩ := hM.ptrAt O hi
  obtain ⟨q0, qb, a, c2, hv⟩ := hM.objAt O hi
  have hlt : i < cs.length := (List.getElem?_eq_some_iff.1 hi).1
  have e1 : (i : Int) < (cs.length : Int) := by omega
  rw [hv] at q0
  unfold ptrO at p0
  simp only at p0
  clear hM O hi
  go_enter Try.func154, Try.ntmps154
  go_wp2
  go_ret
  exact ⟨rfl, rfl⟩
set_option maxRecDepth 100000 in
theorem oget_any (B : Nat) (w0 w : World) (L : List Ent) (kp k0 : Nat) (vo : Value) (cs : List (Option Oc)) (hM : Mem B w0 w L) (O : OAt L kp k0 vo cs) (i : Nat) (o : Oc) (hi : cs[i]? = some (some o)) (k : Nat) (u : V) (hu : o.l[k]? = some u) :
    Calls Try.prog 152 #[vo, .int .i64 i, .int .i64 k] w fun e w' => e = .returned (.agg #[.bool u.ref, .int .i64 u.n]) ∧ Below w.heap.size w w' := by
  obtain ⟨g, cap, rfl, p0, _, pb⟩ := hM.ptrAt O hi
  obtain ⟨q0, qb, _⟩ := hM.objAt O hi
  obtain ⟨gv, c2, hv, v0, v1, _, vb⟩ := hM.valAt _ (O.r i _ hi) hu
  have hlt : i < cs.length := (List.getElem?_eq_some_iff.1 hi).1
  have hlt2 : k < o.l.length := (List.getElem?_eq_some_iff.1 hu).1
  have e1 : (i : Int) < (cs.length : Int) := by omega
  have e2 : (k : Int) < (o.l.length : Int) := by omega
  rw [hv] at q0
  unfold ptrO at p0
  simp only at p0
  have hB : Below w.heap.size w (w.alloc (.cells #[.bool false, .int .i64 0] 80)) := (Below.refl _ w).alloc (Nat.le_refl _) _
  clear hM O hi hu
  go_enter Try.func152, Try.ntmps152
  go_wp2
  exact bodyPost_ret (v := .agg #[.bool u.ref, .int .i64 u.n]) (by simp [results, Try.results152, go_sem]) rfl ⟨rfl, (Below.refl _ w).alloc (Nat.le_refl _) _⟩
section
variable {B : Nat} {w0 w : World} {L : List Ent}
theorem Mem.setVal (h : Mem B w0 w L) (k : Nat) {e : TypeId} {g m cap : Nat} {l : List V} (hk : L[k]? = some (rowV e (.slice (some ⟨g, 0, none⟩) m cap) l)) (hm : l.length = m) {j : Nat} (hj : j < l.length) (v : V) :
    Mem B w0 ((w.setCell ⟨g, j * 2, none⟩ (.bool v.ref)).setCell ⟨g, j * 2 + 1, none⟩ (.int .i64 v.n)) (L.set k (rowV e (.slice (some ⟨g, 0, none⟩) m cap) (l.set j v))) := by
  subst hm
  have h1 := h.setRow (n := l.length) k hk (j * 2) (.bool v.ref)
  have hkl : k < L.length := (List.getElem?_eq_some_iff.1 hk).1
  have h2 := h1.setRow (n := l.length) k (by rw [List.getElem?_set_self hkl]) (j * 2 + 1) (.int .i64 v.n)
  refine h2.cast ?_
  rw [List.set_set]
  congr 1
  unfold rowV
  rw [flat_set l j v hj, List.length_set]
end
theorem set_same {α : Type} {l : List α} {i : Nat} {x : α} (h : l[i]? = some x) : l.set i x = l := by
  apply List.ext_getElem?
  intro j
  by_cases e : i = j
  · subst e
    rw [List.getElem?_set_self (List.getElem?_eq_some_iff.1 h).1, h]
  · rw [List.getElem?_set_ne e]
theorem boxes_set {cs : List (Option Oc)} {i : Nat} {c c' : Option Oc} (h : cs[i]? = some c) (hb : boxO c' = boxO c) : (cs.set i c').map boxO = cs.map boxO := by
  rw [List.map_set, hb]
  exact set_same (by rw [List.getElem?_map, h]; rfl)
theorem objs_set {A R : List Ent} {cs : List (Option Oc)} {i : Nat} {c c' : Option Oc} (h : cs[i]? = some c) (hb : boxO c' = boxO c) :
    (A ++ (objsE cs ++ R)).set (A.length + cs.length + i) (rowO c') = A ++ (objsE (cs.set i c') ++ R) := by
  have hi : i < cs.length := (List.getElem?_eq_some_iff.1 h).1
  rw [List.set_append_right _ _ (by omega), show A.length + cs.length + i - A.length = cs.length + i by omega, List.set_append_left _ _ (by rw [objsE_len]; omega)]
  unfold objsE
  rw [List.set_append_right _ _ (by simp), List.length_map, show cs.length + i - cs.length = i by omega, boxes_set h hb, List.map_set]
set_option maxRecDepth 100000 in
set_option maxHeartbeats 1000000 in
theorem oput_any (B : Nat) (w0 w : World) (L : List Ent) (kp k0 : Nat) (vo : Value) (cs : List (Option Oc)) (hM : Mem B w0 w L) (O : OAt L kp k0 vo cs) (i : Nat) (o : Oc) (hi : cs[i]? = some (some o)) (k : Nat) (hk : k < o.l.length) (u : V) :
    Calls Try.prog 156 #[vo, .int .i64 i, .int .i64 k, .agg #[.bool u.ref, .int .i64 u.n]] w fun e w' => e = .returned (.tuple #[]) ∧ Mem B w0 w' (L.set (k0 + cs.length + i) (rowV 80 o.v (o.l.set k u))) := by
  have hM1 := hM.alloc #[.bool u.ref, .int .i64 u.n] 80
  obtain ⟨x, hx⟩ := get_some _ _ hk
  have hM2 := hM.alloc_ (.cells #[.bool u.ref, .int .i64 u.n] 80)
  have z0 := hM1.cell 0 rfl 0
  have z1 := hM1.cell 0 rfl 1
  have zb : w.heap.size < (w.alloc (.cells #[.bool u.ref, .int .i64 u.n] 80)).heap.size := by simp
  obtain ⟨W, hW⟩ : ∃ W, w.alloc (.cells #[.bool u.ref, .int .i64 u.n] 80) = W := ⟨_, rfl⟩
  rw [hW] at hM2 z0 z1 zb
  obtain ⟨g, cap, rfl, p0, _, pb⟩ := hM2.ptrAt O hi
  obtain ⟨q0, qb, _⟩ := hM2.objAt O hi
  obtain ⟨gv, c2, hv, v0, v1, vf, vb⟩ := hM2.valAt _ (O.r i _ hi) hx
  have hlt : i < cs.length := (List.getElem?_eq_some_iff.1 hi).1
  have e1 : (i : Int) < (cs.length : Int) := by omega
  have e2 : (k : Int) < (o.l.length : Int) := by omega
  have f0 := vf (k * 2)
  have f1 := vf (k * 2 + 1)
  rw [hv] at q0 ⊢
  have hrow : L[k0 + cs.length + i]? = some (rowV 80 (.slice (some ⟨gv, 0, none⟩) o.l.length c2) o.l) := by rw [← hv]; exact O.r i _ hi
  unfold ptrO at p0
  simp only at p0
  have hMf := hM2.setVal _ hrow rfl hk u
  have HMf := Lib.hid hMf
  have HW := Lib.hid hW
  clear hM hM1 hM2 O hi hx vf hMf hrow hv hW
  go_enter Try.func156, Try.ntmps156
  go_wp2_with fail
  rw [HW.out]
  go_still_tail 10, (by kernel_rfl)
  go_wp2_with fail
  refine bodyPost_end (results_none rfl _ _ _) rfl ?_
  exact ⟨rfl, HMf.out.drew⟩
/-- The numbers of those that are there, among the first k. -/
def thereL (os : Os) (k : Nat) : List Int := ((List.range k).filter fun i => ((os[i]?).getD none).isSome).map fun i : Nat => (i : Int)
theorem thereL_yes {os : Os} {k : Nat} {l : List V} (h : os[k]? = some (some l)) : thereL os (k + 1) = thereL os k ++ [(k : Int)] := by
  unfold thereL
  rw [List.range_succ, List.filter_append, List.filter_cons_of_pos (by rw [h]; rfl), List.map_append]; rfl
theorem thereL_no {os : Os} {k : Nat} (h : os[k]? = some none) : thereL os (k + 1) = thereL os k := by
  unfold thereL
  rw [List.range_succ, List.filter_append, List.filter_cons_of_neg (by rw [h]; decide)]; simp
theorem mem_thereL {os : Os} {k : Nat} {x : Int} (hk : k ≤ os.length) : x ∈ thereL os k ↔ Lives os x ∧ x < k := by
  unfold thereL
  rw [List.mem_map]
  constructor
  · rintro ⟨i, hi, rfl⟩
    rw [List.mem_filter, List.mem_range] at hi
    obtain ⟨h1, h2⟩ := hi
    have h3 : os[i]? = some (os[i]'(by omega)) := List.getElem?_eq_getElem (by omega)
    rw [h3] at h2
    simp only [Option.getD_some] at h2
    obtain ⟨l, hl⟩ := Option.isSome_iff_exists.1 h2
    exact ⟨lives_nat (by rw [h3, hl]), by omega⟩
  · rintro ⟨h, hx⟩
    obtain ⟨h0, l, hl⟩ := h
    exact ⟨x.toNat, by rw [List.mem_filter, List.mem_range, hl]; exact ⟨by omega, rfl⟩, by omega⟩
theorem thereL_rising (os : Os) (k : Nat) : (thereL os k).Pairwise (· < ·) := by
  unfold thereL
  rw [List.pairwise_map]
  exact (List.pairwise_lt_range.filter _).imp (fun h => by omega)
theorem thereL_len (os : Os) (k : Nat) : (thereL os k).length ≤ k := by
  unfold thereL
  rw [List.length_map]
  exact Nat.le_trans (List.length_filter_le _ _) (by simp)
set_option maxRecDepth 100000 in
set_option maxHeartbeats 1000000 in
theorem othere_any (B : Nat) (w0 w : World) (L : List Ent) (kp k0 : Nat) (vo : Value) (cs : List (Option Oc)) (hM : Mem B w0 w L) (O : OAt L kp k0 vo cs) (hn : cs.length ≤ 1000) :
    Calls Try.prog 46 #[vo] w fun e w' => ∃ vl, e = .returned vl ∧ Mem w.heap.size w w' [rowI 3 vl (thereL (conts cs) cs.length)] := by
  obtain ⟨a, cap, rfl⟩ := hM.ptrSlice O
  have HM := Lib.hid hM
  have HO := Lib.hid O
  have hM0 := (Mem.start w).nilI 3
  clear hM O
  go_enter Try.func46, Try.ntmps46
  go_wp2
  go_loopw [3, 4, 5, 8] (fun s3 _ _ s8 wr => ∃ k : Nat, k ≤ cs.length ∧ s8 = .int .i64 k ∧ Mem w.heap.size w wr [rowI 3 s3 (thereL (conts cs) k)]) (fun _ _ _ i _ => cs.length - (intOf i).toNat)
  case atStart => exact ⟨0, Nat.zero_le _, rfl, hM0⟩
  case round =>
    clear hM0
    obtain ⟨k, hk, rfl, hMr⟩ := hrel
    by_cases hlt : k < cs.length
    · obtain ⟨c, hc⟩ := get_some _ _ hlt
      have hMw := HM.out.call hMr.below
      obtain ⟨g, c2, hv, p0, _, pb⟩ := hMw.ptrAt HO.out hc
      cases hv
      have hle := thereL_len (conts cs) k
      have HMr := Lib.hid hMr
      obtain ⟨tl, htl⟩ : ∃ tl, thereL (conts cs) k = tl := ⟨_, rfl⟩
      rw [htl] at hle HMr
      cases c with
      | none =>
        have Ht : Hid (thereL (conts cs) (k + 1) = tl) := Lib.hid (by rw [← htl]; exact thereL_no (by unfold conts; rw [List.getElem?_map, hc]; rfl))
        unfold ptrO at p0
        simp only at p0
        clear hc hMw hMr htl
        go_wp2
        go_roundw
        case rel => exact ⟨k + 1, by omega, by go_num, HMr.out.cast (by rw [Ht.out])⟩
        case measure => simp [intOf]; omega
      | some o =>
        have Ht : Hid (thereL (conts cs) (k + 1) = tl ++ [(k : Int)]) := Lib.hid (by rw [← htl]; exact thereL_yes (conts_at hc))
        unfold ptrO at p0
        simp only at p0
        clear hc hMw hMr htl
        go_wp2_with (at_builtin; refine Mem.wp_appI elemInts rfl (.tmp 15) (.tmp 17) rfl HMr.out 0 rfl rfl _ (k : Int) _ _ rfl (by simp) (by omega) ?_; intro ad n1 cp w3 hn1 hM7 hs1 hk1 ha1)
        go_roundw
        case rel => exact ⟨k + 1, by omega, by go_num, hM7.cast (by rw [Ht.out]; rfl)⟩
        case measure => simp [intOf]; omega
    · obtain rfl : k = cs.length := by omega
      have HMr := Lib.hid hMr
      clear hMr
      go_wp2
      go_ret
      exact ⟨_, rfl, HMr.out⟩
end Go.Proofs.Ytmmcjjklmcfegaa
