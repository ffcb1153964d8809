/- Hazard: what the machine owns; guarded, scan, walked. -/
import Derived.Test.YtgmjhoekpbomiaaEi
import Derived.Test.YtgmjhoekpbomiaaZa
import Derived.Deep.RegionHeld3
import Derived.Deep.LoopGhost
import Derived.Deep.DeepCutAuto
import Derived.Deep.QuietTactic
import Derived.BigQuiet
namespace Go.Proofs.Ytgmjhoekpbomiaa
open Go.RowKit

theorem elemCodes : Elem Try.prog 23 28 1 8 (.int .i64 0) := ⟨by kernel_rfl, info_parts (by kernel_rfl), rfl, by decide⟩
theorem elemFates : Elem Try.prog 24 32 2 16 (.agg #[.int .i64 0, .int .i64 0]) := ⟨by kernel_rfl, info_parts (by kernel_rfl), rfl, by decide⟩
theorem elemThreads : Elem Try.prog 59 63 1 8 (.pointer none) := ⟨by kernel_rfl, info_parts (by kernel_rfl), rfl, by decide⟩

/-- A thread, as it lies. -/
structure Th where
  b : Nat
  g : Int
  wv : Value
  ws : List Int
def Th.box (t : Th) : Ent := ebox t.b #[.int .i64 t.g, t.wv] 65
def Th.row (t : Th) : Ent := rowI 3 t.wv t.ws
def thE (t : Th) : List Ent := [t.box, t.row]
def ptr (b : Nat) : Value := .pointer (some ⟨b, 0, none⟩)
def rowPt (v : Value) (bs : List Nat) : Ent := erow 63 1 v bs.length (bs.map ptr)
def worldC (tv : Value) (gone : List Bool) (fv : Value) : Array Value := (tv :: (gone.map .bool ++ [fv])).toArray
def ownH (Bw : Nat) (tv fv : Value) (gone : List Bool) (fr : List (Int × Int)) (ths : List Th) : List Ent :=
  ebox Bw (worldC tv gone fv) 62 :: rowPt tv (ths.map (·.b)) :: rowT 32 2 encF fv fr :: ths.flatMap thE
theorem flat_get : ∀ {ths : List Th} {i : Nat} {t : Th}, ths[i]? = some t → (ths.flatMap thE)[2 * i]? = some t.box ∧ (ths.flatMap thE)[2 * i + 1]? = some t.row
  | [], i, t, h => by simp at h
  | x :: ths, 0, t, h => by simp at h; subst h; exact ⟨rfl, rfl⟩
  | x :: ths, i + 1, t, h => by
    have := flat_get (ths := ths) (i := i) (t := t) (by simpa using h)
    rw [List.flatMap_cons, show 2 * (i + 1) = 2 * i + 2 by omega]
    exact this
theorem flat_set : ∀ {ths : List Th} {i : Nat} (t' : Th), i < ths.length → ((ths.flatMap thE).set (2 * i) t'.box).set (2 * i + 1) t'.row = (ths.set i t').flatMap thE
  | [], i, t', h => by simp at h
  | x :: ths, 0, t', _ => rfl
  | x :: ths, i + 1, t', h => by
    have := flat_set (ths := ths) (i := i) t' (by simpa using h)
    rw [List.flatMap_cons, show 2 * (i + 1) = 2 * i + 2 by omega, List.set_cons_succ, List.flatMap_cons, ← this]
    rfl
theorem flat_set_box {ths : List Th} {i : Nat} {t : Th} (h : ths[i]? = some t) (t' : Th) (hr : t'.row = t.row) : (ths.flatMap thE).set (2 * i) t'.box = (ths.set i t').flatMap thE := by
  rw [← flat_set t' (List.getElem?_eq_some_iff.1 h).1]
  have h2 := (flat_get h).2
  rw [hr]
  apply List.ext_getElem?
  intro k
  by_cases e : k = 2 * i + 1
  · subst e
    rw [List.getElem?_set_ne (by omega), List.getElem?_set_self (by rw [List.length_set]; exact (List.getElem?_eq_some_iff.1 h2).1)]; exact h2
  · rw [List.getElem?_set_ne (fun e2 => e e2.symm) (l := (ths.flatMap thE).set (2 * i) t'.box)]
section
variable {Bw : Nat} {tv fv : Value} {gone : List Bool} {fr : List (Int × Int)} {ths : List Th} {L' : List Ent} {i : Nat} {t : Th}
theorem own_box (h : ths[i]? = some t) : (ownH Bw tv fv gone fr ths ++ L')[3 + 2 * i]? = some t.box := by
  unfold ownH
  rw [show 3 + 2 * i = 2 * i + 1 + 1 + 1 by omega]
  simp only [List.cons_append, List.getElem?_cons_succ]
  rw [List.getElem?_append_left (List.getElem?_eq_some_iff.1 (flat_get h).1).1]
  exact (flat_get h).1
theorem own_row (h : ths[i]? = some t) : (ownH Bw tv fv gone fr ths ++ L')[4 + 2 * i]? = some t.row := by
  unfold ownH
  rw [show 4 + 2 * i = 2 * i + 1 + 1 + 1 + 1 by omega]
  simp only [List.cons_append, List.getElem?_cons_succ]
  rw [List.getElem?_append_left (List.getElem?_eq_some_iff.1 (flat_get h).2).1]
  exact (flat_get h).2
theorem own_set_box (h : ths[i]? = some t) (t' : Th) (hr : t'.row = t.row) (hb : t'.b = t.b) : (ownH Bw tv fv gone fr ths ++ L').set (3 + 2 * i) t'.box = ownH Bw tv fv gone fr (ths.set i t') ++ L' := by
  unfold ownH
  rw [show 3 + 2 * i = 2 * i + 1 + 1 + 1 by omega]
  simp only [List.cons_append, List.set_cons_succ]
  rw [List.set_append_left _ _ (List.getElem?_eq_some_iff.1 (flat_get h).1).1, flat_set_box h t' hr]
  have : (ths.set i t').map (·.b) = ths.map (·.b) := by
    rw [List.map_set, hb]
    have h2 : (ths.map (·.b))[i]? = some t.b := by rw [List.getElem?_map, h]; rfl
    obtain ⟨h3, h4⟩ := List.getElem?_eq_some_iff.1 h2
    rw [← h4, List.set_getElem_self]
  rw [this]
theorem own_set_row (h : ths[i]? = some t) (t' : Th) (hb : t'.b = t.b) : ((ownH Bw tv fv gone fr ths ++ L').set (4 + 2 * i) t'.row).set (3 + 2 * i) t'.box = ownH Bw tv fv gone fr (ths.set i t') ++ L' := by
  unfold ownH
  rw [show 3 + 2 * i = 2 * i + 1 + 1 + 1 by omega, show 4 + 2 * i = 2 * i + 1 + 1 + 1 + 1 by omega]
  simp only [List.cons_append, List.set_cons_succ]
  have hl1 := (List.getElem?_eq_some_iff.1 (flat_get h).1).1
  have hl2 := (List.getElem?_eq_some_iff.1 (flat_get h).2).1
  rw [List.set_append_left _ _ hl2, List.set_append_left _ _ (by rw [List.length_set]; exact hl1), List.set_comm _ _ (by omega), flat_set t' (List.getElem?_eq_some_iff.1 h).1]
  have : (ths.set i t').map (·.b) = ths.map (·.b) := by
    rw [List.map_set, hb]
    have h2 : (ths.map (·.b))[i]? = some t.b := by rw [List.getElem?_map, h]; rfl
    obtain ⟨h3, h4⟩ := List.getElem?_eq_some_iff.1 h2
    rw [← h4, List.set_getElem_self]
  rw [this]
end
theorem worldC_gone (tv fv : Value) {gone : List Bool} (hl : gone.length = 100) {i : Nat} (hi : i < 100) (b : Bool) : (worldC tv gone fv).setIfInBounds (1 + i) (.bool b) = worldC tv (gone.set i b) fv := by
  unfold worldC
  rw [List.setIfInBounds_toArray, Nat.add_comm, List.set_cons_succ, List.set_append_left _ _ (by simp; omega), List.map_set]
theorem worldC_fv (tv fv fv' : Value) {gone : List Bool} (hl : gone.length = 100) : (worldC tv gone fv).setIfInBounds 101 fv' = worldC tv gone fv' := by
  unfold worldC
  rw [List.setIfInBounds_toArray, List.set_cons_succ, List.set_append_right _ _ (by simp; omega)]
  simp [hl]
theorem worldC_tv (tv tv' fv : Value) (gone : List Bool) : (worldC tv gone fv).setIfInBounds 0 tv' = worldC tv' gone fv := by
  unfold worldC
  rw [List.setIfInBounds_toArray, List.set_cons_zero]
theorem worldC_at (tv fv : Value) {gone : List Bool} (hl : gone.length = 100) : (worldC tv gone fv)[0]? = some tv ∧ (∀ i, i < 100 → (worldC tv gone fv)[1 + i]? = some (.bool (gone.getD i false))) ∧ (worldC tv gone fv)[101]? = some fv := by
  unfold worldC
  refine ⟨by simp, fun i hi => ?_, ?_⟩
  · rw [List.getElem?_toArray, Nat.add_comm, List.getElem?_cons_succ, List.getElem?_append_left (by simp; omega), List.getElem?_map, List.getD_eq_getElem?_getD, List.getElem?_eq_getElem (by omega)]; rfl
  · rw [List.getElem?_toArray, List.getElem?_cons_succ, List.getElem?_append_right (by simp; omega)]; simp [hl]

/-- The threads as they read. -/
def IsThreads (w : World) (tv : Value) (gs : List Int) : Prop :=
  ∃ a cap, tv = .slice a gs.length cap ∧ gs.length ≤ 1000 ∧ ∀ i g, gs[i]? = some g → ∃ gt b, a = some ⟨gt, 0, none⟩ ∧ gt < w.heap.size ∧ w.cell? ⟨gt, i, none⟩ = some (ptr b) ∧ b < w.heap.size ∧ w.cell? ⟨b, 0, none⟩ = some (.int .i64 g)
theorem IsThreads.later {w w' : World} {tv : Value} {gs : List Int} (h : IsThreads w tv gs) (hb : Below w.heap.size w w') : IsThreads w' tv gs := by
  obtain ⟨a, cap, rfl, hl, hc⟩ := h
  refine ⟨a, cap, rfl, hl, fun i g hg => ?_⟩
  obtain ⟨gt, b, ha, h1, h2, h3, h4⟩ := hc i g hg
  exact ⟨gt, b, ha, Nat.lt_of_lt_of_le h1 hb.size, (hb.cell (p := ⟨_, _, none⟩) h1).trans h2, Nat.lt_of_lt_of_le h3 hb.size, (hb.cell (p := ⟨_, _, none⟩) h3).trans h4⟩
theorem isThreads_own {B Bw : Nat} {w0 w : World} {tv fv : Value} {gone : List Bool} {fr : List (Int × Int)} {ths : List Th} {L' : List Ent} (h : Mem B w0 w (ownH Bw tv fv gone fr ths ++ L')) (hl : ths.length ≤ 1000) : IsThreads w tv (ths.map (·.g)) := by
  have hr : w.ownsRow B 63 1 tv (ths.map (·.b)).length ((ths.map (·.b)).map ptr) := h.row 1 rfl
  rcases hr.2 with ⟨rfl, h0⟩ | ⟨gt, cap, cur, rfl, _, hg, _⟩
  · have : ths = [] := List.eq_nil_of_length_eq_zero (by simpa using h0)
    subst this
    exact ⟨none, 0, rfl, by simp, by simp⟩
  · refine ⟨some ⟨gt, 0, none⟩, cap, by simp, by simpa using hl, fun i g hg2 => ?_⟩
    rw [List.getElem?_map] at hg2
    cases ht : ths[i]? with
    | none => rw [ht] at hg2; cases hg2
    | some t =>
      rw [ht] at hg2
      cases hg2
      have hi := (List.getElem?_eq_some_iff.1 ht).1
      have hbx := h.box (3 + 2 * i) (own_box ht)
      have hcb := h.cell (3 + 2 * i) (own_box ht) 0
      refine ⟨gt, t.b, rfl, (Array.getElem?_eq_some_iff.1 hg).1, ?_, hbx.2.1, by simpa using hcb⟩
      rw [hr.cellAt i (by simp; omega)]
      simp [ht]
theorem guard1_any (b bi : Nat) (g x : Int) (w : World) (h1 : w.cell? ⟨b, 0, none⟩ = some (.int .i64 g)) (h2 : w.cell? ⟨bi, 0, none⟩ = some (.int .i64 x)) :
    Calls Try.prog 59 #[ptr b, .pointer (some ⟨bi, 0, none⟩)] w fun e w' => e = .returned (.bool (g == x)) ∧ Below w.heap.size w w' := by
  unfold ptr
  go_enter Try.func59, Try.ntmps59
  go_wp2
  go_quiet (fail)
  go_wp2
  go_ret
  exact ⟨rfl, ⟨rfl, rfl, rfl, Nat.le_refl _, fun _ _ => rfl⟩⟩
def IxSays (gs : List Int) (x : Int) (w w' : World) (e : Ending) : Prop := ∃ i : Int, e = .returned (.int .i64 i) ∧ (0 ≤ i ↔ x ∈ gs) ∧ Below w.heap.size w w'
theorem guardIx_any (tv : Value) (gs : List Int) (bi : Nat) (x : Int) (w : World) (ht : IsThreads w tv gs) (h2 : w.cell? ⟨bi, 0, none⟩ = some (.int .i64 x)) (hbi : bi < w.heap.size) :
    Calls Try.prog 61 #[tv, .func (.func 59) #[] #[.pointer (some ⟨bi, 0, none⟩)]] w fun e w' => IxSays gs x w w' e := by
  have Ht0 := Lib.hid ht
  obtain ⟨a, cap, rfl, hl, hc⟩ := ht
  have H2 := Lib.hid h2
  clear hc h2
  go_enter Try.func61, Try.ntmps61
  go_wp2
  go_loopw [8] (fun i wr => ∃ k : Nat, k ≤ gs.length ∧ i = .int .i64 k ∧ x ∉ gs.take k ∧ Below w.heap.size w wr) (fun i _ => gs.length - (intOf i).toNat)
  case atStart => exact ⟨0, Nat.zero_le _, rfl, by simp, Below.refl _ _⟩
  case round =>
    obtain ⟨k, hk, rfl, hN, hB⟩ := hrel
    have HB := Lib.hid hB
    by_cases hlt : k < gs.length
    · obtain ⟨g, hg⟩ := get_some _ _ hlt
      obtain ⟨a', cap', hv, _, hc⟩ := Ht0.out.later hB
      cases hv
      obtain ⟨gt, b, rfl, z1, c1, z2, c2⟩ := hc k g hg
      have c3 : wr.cell? ⟨bi, 0, none⟩ = some (.int .i64 x) := (hB.cell (p := ⟨_, _, none⟩) hbi).trans H2.out
      clear hc
      have HS := Lib.hid (take_succ_some _ _ _ hg)
      have Hg := Lib.hid (List.mem_of_getElem? hg)
      have HN := Lib.hid hN
      have hcl := guard1_any b bi g x wr c2 c3
      obtain ⟨t, ht⟩ : ∃ t, (g == x) = t := ⟨_, rfl⟩
      rw [ht] at hcl
      have Ht := Lib.hid ht
      have Hcl := Lib.hid hcl
      clear hg hN hcl ht hB
      go_wp2_with fail
      refine Hcl.out.mono ?_
      rintro e w1 ⟨rfl, hb1⟩
      have HB1 := Lib.hid (HB.out.trans (hb1.mono HB.out.size))
      clear hb1
      cases t with
      | false =>
        go_wp2
        go_roundw
        case rel => exact ⟨k + 1, by omega, by go_num, (by rw [HS.out, List.mem_append]; rintro (h | h); exact HN.out h; have := Ht.out; simp at h this; omega), HB1.out⟩
        case measure => simp [intOf]; omega
      | true =>
        have Hm : Hid (x ∈ gs) := Lib.hid (by have := Ht.out; simp at this; rw [← this]; exact Hg.out)
        go_wp2
        go_ret
        exact ⟨k, rfl, ⟨fun _ => Hm.out, fun _ => by omega⟩, HB1.out⟩
    · obtain rfl : k = gs.length := by omega
      rw [List.take_length] at hN
      have HN := Lib.hid hN
      clear hN hB
      go_wp2
      go_ret
      exact ⟨-1, rfl, ⟨fun h => by omega, fun h => (HN.out h).elim⟩, HB.out⟩
theorem guardCo_any (tv : Value) (gs : List Int) (bi : Nat) (x : Int) (w : World) (ht : IsThreads w tv gs) (h2 : w.cell? ⟨bi, 0, none⟩ = some (.int .i64 x)) (hbi : bi < w.heap.size) :
    Calls Try.prog 58 #[tv, .func (.func 59) #[] #[.pointer (some ⟨bi, 0, none⟩)]] w fun e w' => e = .returned (.bool (decide (x ∈ gs))) ∧ Below w.heap.size w w' := by
  have Ht := Lib.hid ht
  have H2 := Lib.hid h2
  obtain ⟨t, htt⟩ : ∃ t, decide (x ∈ gs) = t := ⟨_, rfl⟩
  rw [htt]
  have Htt := Lib.hid htt
  clear ht h2 htt
  go_enter Try.func58, Try.ntmps58
  go_wp2_with fail
  refine (guardIx_any _ gs bi x _ Ht.out H2.out hbi).mono ?_
  rintro e w1 ⟨i, rfl, hi, hb1⟩
  have Hb1 := Lib.hid hb1
  clear hb1
  have hd : decide (0 ≤ i) = t := by rw [← Htt.out, Bool.eq_iff_iff, decide_eq_true_eq, decide_eq_true_eq]; exact hi
  clear hi
  cases t with
  | true =>
    have h0 : 0 ≤ i := of_decide_eq_true hd
    clear hd
    go_wp2
    go_ret
    exact ⟨by simp <;> omega, Hb1.out⟩
  | false =>
    have h0 : ¬ 0 ≤ i := of_decide_eq_false hd
    clear hd
    go_wp2
    go_ret
    exact ⟨by simp <;> omega, Hb1.out⟩
theorem guarded_any (Bw : Nat) (tv : Value) (gs : List Int) (x : Int) (w : World) (ht : IsThreads w tv gs) (h1 : w.cell? ⟨Bw, 0, none⟩ = some tv) (hB : Bw < w.heap.size) :
    Calls Try.prog 50 #[.pointer (some ⟨Bw, 0, none⟩), .int .i64 x] w fun e w' => e = .returned (.bool (decide (x ∈ gs))) ∧ Below w.heap.size w w' := by
  have hb : Below w.heap.size w (w.alloc (.cells #[.int .i64 x] 3)) := (Below.refl _ _).alloc (Nat.le_refl _) _
  have Ht := Lib.hid (ht.later hb)
  have Hb := Lib.hid hb
  obtain ⟨t, htt⟩ : ∃ t, decide (x ∈ gs) = t := ⟨_, rfl⟩
  have Hco := Lib.hid (guardCo_any tv gs w.heap.size x _ Ht.out (by simp) (by simp))
  rw [htt] at Hco ⊢
  clear ht hb htt
  go_enter Try.func50, Try.ntmps50
  go_wp2_with fail
  refine Hco.out.mono ?_
  rintro e w1 ⟨rfl, hb1⟩
  have Hb1 := Lib.hid (Hb.out.trans (hb1.mono (by simp)))
  clear hb1
  go_wp2
  go_ret
  exact ⟨rfl, Hb1.out⟩
end Go.Proofs.Ytgmjhoekpbomiaa
