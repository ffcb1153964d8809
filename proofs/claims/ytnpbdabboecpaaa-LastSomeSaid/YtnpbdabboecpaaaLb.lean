/- last.Last, walked. -/
import Derived.Test.YtnpbdabboecpaaaLa
import Derived.Test.YtnpbdabboecpaaaMr
import Derived.Test.YtnpbdabboecpaaaTs
import Derived.Deep.LoopGhost
import Derived.Maps.RangeWalk
namespace Go.Proofs.Ytnpbdabboecpaaa
open Go.RowKit Go.Shelf

/-! ### What is told -/
def ReachP (g : G) (x : Int) : Prop := TS g (targets g.roots) x
def LeadP (g : G) (i x : Int) : Prop := TS g (targets (fieldsAt g i)) x
def LostP (g : G) (wl : List Int) (i : Int) : Prop := i ∈ wl ∧ ¬ ReachP g i
def SavedP (g : G) (wl : List Int) (x : Int) : Prop := ∃ i, LostP g wl i ∧ (x = i ∨ (LeadP g i x ∧ ¬ ReachP g x))
def HeldP (g : G) (wl : List Int) (x : Int) : Prop := ∃ i, LostP g wl i ∧ LeadP g i x ∧ x ≠ i
theorem Far.reachP {g : G} {l dist : List Int} (h : Far g l dist) (x : Int) : x ∈ l ↔ ReachP g x := by
  constructor
  · intro hx S hS hr
    exact h.leastS S hr hS x hx
  · intro hx
    exact hx (fun y => y ∈ l) (fun i hi j hj => (h.closed i hi j hj).1) (fun j hj => (h.root j hj).1)
theorem Far.leadP {g : G} {i : Int} {l dist : List Int} (h : Far (fromG g i) l dist) (x : Int) : x ∈ l ↔ LeadP g i x := h.reachP x
structure LastS (g : G) (wl R S : List Int) : Prop where
  risR : R.Pairwise (· < ·)
  risS : S.Pairwise (· < ·)
  rngR : ∀ x ∈ R, 0 ≤ x ∧ x < (g.objs.length : Int)
  rngS : ∀ x ∈ S, 0 ≤ x ∧ x < (g.objs.length : Int)
  ready : ∀ i : Nat, i < g.objs.length → ((i : Int) ∈ R ↔ LostP g wl i ∧ ¬ HeldP g wl i)
  saved : ∀ i : Nat, i < g.objs.length → ((i : Int) ∈ S ↔ SavedP g wl i)
open Classical in
/-- A map that holds 1 at some keys. -/
noncomputable def setF (P : Int → Prop) : Int → Option Value := fun x => if P x then some (.int .i64 1) else none
open Classical in
theorem setF_put (P Q : Int → Prop) (y : Int) (h : ∀ x, Q x ↔ P x ∨ x = y) : (fun u => if u = y then some (Value.int .i64 1) else setF P u) = setF Q := by
  funext u
  unfold setF
  by_cases e : u = y
  · rw [if_pos e, if_pos ((h u).2 (.inr e))]
  · rw [if_neg e]
    by_cases hp : P u
    · rw [if_pos hp, if_pos ((h u).2 (.inl hp))]
    · rw [if_neg hp, if_neg (fun hq => by rcases (h u).1 hq with h1 | h1; exact hp h1; exact e h1)]
theorem setF_nil : setF (fun _ => False) = fun _ => none := by funext x; simp [setF]
theorem setF_some {P : Int → Prop} (x : Int) : (setF P x).isSome = true ↔ P x := by
  unfold setF; split <;> simp_all
theorem setF_congr {P Q : Int → Prop} (h : ∀ x, P x ↔ Q x) : setF P = setF Q := by
  have : P = Q := funext fun x => propext (h x)
  rw [this]
theorem look_yes {B b n : Nat} {P : Int → Prop} {w : World} (h : (gmap mapII b n (setF P)).ok B w) {x : Int} (hx : i64ok x) (hp : P x) :
    (Instr.lookup 67 (.map (some b)) (.int .i64 x) false).run Try.prog w = .ok (.int .i64 1) w := by
  have := (gmap_look (M := mapII) h hx).1
  rw [show setF P x = some (.int .i64 1) from by unfold setF; rw [if_pos hp]] at this
  exact this
theorem look_no {B b n : Nat} {P : Int → Prop} {w : World} (h : (gmap mapII b n (setF P)).ok B w) {x : Int} (hx : i64ok x) (hp : ¬ P x) :
    (Instr.lookup 67 (.map (some b)) (.int .i64 x) false).run Try.prog w = .ok (.int .i64 0) w := by
  have := (gmap_look (M := mapII) h hx).1
  rw [show setF P x = none from by unfold setF; rw [if_neg hp]] at this
  exact this
open Classical in
/-- The numbers below k of which something is so. -/
noncomputable def selL (P : Int → Prop) (k : Nat) : List Int := ((List.range k).filter fun (i : Nat) => decide (P i)).map fun (i : Nat) => (i : Int)
open Classical in
theorem selL_yes {P : Int → Prop} {k : Nat} (h : P k) : selL P (k + 1) = selL P k ++ [(k : Int)] := by
  unfold selL
  rw [List.range_succ, List.filter_append, List.map_append, List.filter_cons, List.filter_nil, if_pos (decide_eq_true h)]; rfl
open Classical in
theorem selL_no {P : Int → Prop} {k : Nat} (h : ¬ P k) : selL P (k + 1) = selL P k := by
  unfold selL
  rw [List.range_succ, List.filter_append, List.map_append, List.filter_cons, List.filter_nil, if_neg (by simpa using h)]; simp
open Classical in
theorem selL_len (P : Int → Prop) (k : Nat) : (selL P k).length ≤ k := by
  unfold selL
  rw [List.length_map]
  exact Nat.le_trans (List.length_filter_le _ _) (by simp)
open Classical in
theorem mem_selL {P : Int → Prop} {k : Nat} {x : Int} : x ∈ selL P k ↔ 0 ≤ x ∧ x < (k : Int) ∧ P x := by
  unfold selL
  rw [List.mem_map]
  constructor
  · rintro ⟨i, hi, rfl⟩
    rw [List.mem_filter, List.mem_range] at hi
    exact ⟨by omega, by omega, by simpa using hi.2⟩
  · rintro ⟨h0, h1, h2⟩
    refine ⟨x.toNat, ?_, by omega⟩
    rw [List.mem_filter, List.mem_range]
    refine ⟨by omega, ?_⟩
    rw [show ((x.toNat : Nat) : Int) = x by omega]
    exact decide_eq_true h2
open Classical in
theorem selL_rising (P : Int → Prop) (k : Nat) : (selL P k).Pairwise (· < ·) := by
  unfold selL
  rw [List.pairwise_map]
  exact (List.pairwise_lt_range (n := k)).filter _ |>.imp (by intro a b h; exact_mod_cast h)
theorem lastS_of (g : G) (wl : List Int) : LastS g wl (selL (fun i => LostP g wl i ∧ ¬ HeldP g wl i) g.objs.length) (selL (SavedP g wl) g.objs.length) := by
  refine ⟨selL_rising _ _, selL_rising _ _, fun x hx => ?_, fun x hx => ?_, fun i hi => ?_, fun i hi => ?_⟩
  · have := mem_selL.1 hx; exact ⟨this.1, this.2.1⟩
  · have := mem_selL.1 hx; exact ⟨this.1, this.2.1⟩
  · rw [mem_selL]; exact ⟨fun h => h.2.2, fun h => ⟨by omega, by omega, h⟩⟩
  · rw [mem_selL]; exact ⟨fun h => h.2.2, fun h => ⟨by omega, by omega, h⟩⟩
/-- What the range over the lost ones has done: those in D. -/
def SavedD (g : G) (Dn : Int → Prop) (x : Int) : Prop := ∃ i, Dn i ∧ (x = i ∨ (LeadP g i x ∧ ¬ ReachP g x))
def HeldD (g : G) (Dn : Int → Prop) (x : Int) : Prop := ∃ i, Dn i ∧ LeadP g i x ∧ x ≠ i
/-- In the midst of one's list. -/
def SavedM (g : G) (Dn : Int → Prop) (i : Int) (l : List Int) (x : Int) : Prop := SavedD g Dn x ∨ x = i ∨ (x ∈ l ∧ ¬ ReachP g x)
def HeldM (g : G) (Dn : Int → Prop) (i : Int) (l : List Int) (x : Int) : Prop := HeldD g Dn x ∨ (x ∈ l ∧ x ≠ i)
theorem setF_get {P : Int → Prop} {x : Int} {v : Value} (h : setF P x = some v) : P x ∧ v = .int .i64 1 := by
  unfold setF at h
  split at h
  · exact ⟨by assumption, (Option.some.inj h).symm⟩
  · cases h
theorem SavedM.nil {g : G} {Dn : Int → Prop} {i : Int} (x : Int) : SavedM g Dn i [] x ↔ SavedD g Dn x ∨ x = i := by simp [SavedM]
theorem HeldM.nil {g : G} {Dn : Int → Prop} {i : Int} (x : Int) : HeldM g Dn i [] x ↔ HeldD g Dn x := by simp [HeldM]
theorem SavedM.snoc {g : G} {Dn : Int → Prop} {i : Int} {l : List Int} {y : Int} (x : Int) : SavedM g Dn i (l ++ [y]) x ↔ SavedM g Dn i l x ∨ (x = y ∧ ¬ ReachP g y) := by
  unfold SavedM
  rw [List.mem_append, List.mem_singleton]
  constructor
  · rintro (h | h | ⟨h | rfl, h2⟩)
    · exact .inl (.inl h)
    · exact .inl (.inr (.inl h))
    · exact .inl (.inr (.inr ⟨h, h2⟩))
    · exact .inr ⟨rfl, h2⟩
  · rintro ((h | h | h) | ⟨rfl, h2⟩)
    · exact .inl h
    · exact .inr (.inl h)
    · exact .inr (.inr ⟨.inl h.1, h.2⟩)
    · exact .inr (.inr ⟨.inr rfl, h2⟩)
theorem HeldM.snoc {g : G} {Dn : Int → Prop} {i : Int} {l : List Int} {y : Int} (x : Int) : HeldM g Dn i (l ++ [y]) x ↔ HeldM g Dn i l x ∨ (x = y ∧ y ≠ i) := by
  unfold HeldM
  rw [List.mem_append, List.mem_singleton]
  constructor
  · rintro (h | ⟨h | rfl, h2⟩)
    · exact .inl (.inl h)
    · exact .inl (.inr ⟨h, h2⟩)
    · exact .inr ⟨rfl, h2⟩
  · rintro ((h | h) | ⟨rfl, h2⟩)
    · exact .inl h
    · exact .inr ⟨.inl h.1, h.2⟩
    · exact .inr ⟨.inr rfl, h2⟩
theorem SavedM.all {g : G} {Dn : Int → Prop} {i : Int} {l : List Int} (hl : ∀ x, x ∈ l ↔ LeadP g i x) (x : Int) : SavedM g Dn i l x ↔ SavedD g (fun y => Dn y ∨ y = i) x := by
  unfold SavedM SavedD
  rw [hl]
  constructor
  · rintro (⟨j, h, h2⟩ | rfl | ⟨h, h2⟩)
    · exact ⟨j, .inl h, h2⟩
    · exact ⟨x, .inr rfl, .inl rfl⟩
    · exact ⟨i, .inr rfl, .inr ⟨h, h2⟩⟩
  · rintro ⟨j, h | rfl, h2⟩
    · exact .inl ⟨j, h, h2⟩
    · exact .inr h2
theorem HeldM.all {g : G} {Dn : Int → Prop} {i : Int} {l : List Int} (hl : ∀ x, x ∈ l ↔ LeadP g i x) (x : Int) : HeldM g Dn i l x ↔ HeldD g (fun y => Dn y ∨ y = i) x := by
  unfold HeldM HeldD
  rw [hl]
  constructor
  · rintro (⟨j, h, h2⟩ | ⟨h, h2⟩)
    · exact ⟨j, .inl h, h2⟩
    · exact ⟨i, .inr rfl, h, h2⟩
  · rintro ⟨j, h | rfl, h2⟩
    · exact .inl ⟨j, h, h2⟩
    · exact .inr h2
theorem SavedD.congr {g : G} {D D' : Int → Prop} (h : ∀ x, D x ↔ D' x) (x : Int) : SavedD g D x ↔ SavedD g D' x := by
  have : D = D' := funext fun x => propext (h x)
  rw [this]
theorem HeldD.congr {g : G} {D D' : Int → Prop} (h : ∀ x, D x ↔ D' x) (x : Int) : HeldD g D x ↔ HeldD g D' x := by
  have : D = D' := funext fun x => propext (h x)
  rw [this]
theorem isInts_small {B : Nat} {w0 w : World} {L : List Ent} (h : Mem B w0 w L) (k : Nat) {e : TypeId} {v : Value} {l : List Int} (hk : L[k]? = some (rowI e v l)) (hl : l.length ≤ 1000) (hr : ∀ x ∈ l, 0 ≤ x ∧ x < 1000000) : IsInts w v l :=
  isInts_of_own (h.ownI k hk) (by omega) (fun x hx => by have := hr x hx; exact ⟨by omega, by omega⟩)
def LastOk (g : G) (wl : List Int) : Prop := Good g ∧ wl.length ≤ 24 ∧ ∀ x ∈ wl, 0 ≤ x ∧ x < (g.objs.length : Int)
def LastReads (g : G) (wl : List Int) (w w' : World) (e : Ending) : Prop := ∃ vr vs R S, e = .returned (.tuple #[vr, vs, .int .i64 0]) ∧ LastS g wl R S ∧ IsInts w' vr R ∧ IsInts w' vs S ∧ Below w.heap.size w w'
set_option maxRecDepth 100000 in
set_option maxHeartbeats 4000000 in
theorem last_yes (g : G) (v u : Value) (wl : List Int) (w : World) (hg : IsGraph w v g) (hu : IsInts w u wl) (hk : LastOk g wl) :
    Calls Try.prog 25 #[v, u] w fun e w' => LastReads g wl w w' e := by
  have Hg := Lib.hid hg
  obtain ⟨vo, vr, rfl, ho, hr⟩ := hg
  obtain ⟨ao, co, rfl, hlo⟩ := ho.slice
  obtain ⟨ar, cr, rfl, hlr⟩ := hr.slice
  obtain ⟨au, cu, rfl, hlu⟩ := hu.slice
  have hn := hk.1.objs
  have hfl := hk.2.1
  have Hu := Lib.hid hu
  have HG := Lib.hid hk.1
  have Hk := Lib.hid hk
  clear ho hr hu hk
  obtain ⟨N, hN⟩ : ∃ N, wl.length = N := ⟨_, rfl⟩
  rw [hN] at hfl hlu
  rw [hN]
  have HN := Lib.hid hN
  clear hN
  have hmm := @run_makeMap Try.prog
  have hM0 := (Mem.start w).alloc #[.slice ao g.objs.length co, .slice ar g.roots.length cr] 25
  go_enter Try.func25, Try.ntmps25
  go_wp2_with fail
  refine (gcheck_yes _ g _ (Hg.out.later hM0.below) HG.out).mono ?_
  rintro e w1 ⟨rfl, hb1⟩
  have hM1 := hM0.call hb1
  obtain ⟨p0, p1⟩ := hM1.cells2 0 rfl
  have z0 : w.heap.size < w1.heap.size := (hM1.box 0 rfl).2.1
  have HM1 := Lib.hid hM1
  have hcn := lastContains_any (.slice au wl.length cu) wl w.heap.size ao g.objs.length co w1 p0 (by omega) (Hu.out.later hM1.below)
  rw [HN.out, show wl.any (outB g.objs.length) = false from List.any_eq_false.2 fun x hx => by have := Hk.out.2.2 x hx; simp [outB]; omega] at hcn
  have Hcn := Lib.hid hcn
  clear hM0 hM1 hb1 hcn
  go_wp2_with fail
  refine Hcn.out.mono ?_
  rintro e w2 ⟨rfl, rfl⟩
  go_wp2_with fail
  refine (found_any g HG.out _ _ (Hg.out.later HM1.out.below)).mono ?_
  rintro e w3 ⟨vl, vd, l, dist, rfl, hF, hM3⟩
  have hfar := hF.far HG.out
  have hdl := hfar.inv.len
  have hID := isInts_dist HG.out hfar 1 hM3 rfl
  obtain ⟨ad, cd, rfl, _⟩ := hID.slice
  simp only at hdl
  rw [hdl]
  have Hdl := Lib.hid hdl
  have HF := Lib.hid hfar
  have hM4 := HM1.out.callMem hM3
  have hM5 : Mem w.heap.size w w3 [ebox w.heap.size #[.slice ao g.objs.length co, .slice ar g.roots.length cr] 25, rowI 3 (.slice ad g.objs.length cd) dist] := (hM4.cast (by rw [hdl])).pick0 [2, 1] (by decide) rfl
  have hM6 := hM5.newMapAt mapII w3.heap.size rfl
  have hM7 : Mem w.heap.size w (w3.alloc (.map #[] 0)) [gmap mapII w3.heap.size 0 (setF fun _ => False), ebox w.heap.size #[.slice ao g.objs.length co, .slice ar g.roots.length cr] 25, rowI 3 (.slice ad g.objs.length cd) dist] := by rw [setF_nil]; exact hM6
  clear hF hM3 hfar hdl hID hM4 hM5 hM6 Hcn p0 p1 z0
  go_wp2
  go_loopw [40] (fun iv wr => ∃ (k nL : Nat) (P : Int → Prop), k ≤ N ∧ nL ≤ k ∧ iv = .int .i64 k ∧ (∀ x, P x ↔ LostP g (wl.take k) x) ∧ Mem w.heap.size w wr [gmap mapII w3.heap.size nL (setF P), ebox w.heap.size #[.slice ao g.objs.length co, .slice ar g.roots.length cr] 25, rowI 3 (.slice ad g.objs.length cd) dist]) (fun iv _ => N - (intOf iv).toNat)
  case atStart => exact ⟨0, 0, _, Nat.zero_le _, Nat.zero_le _, rfl, by intro x; simp [LostP], hM7⟩
  case round =>
    clear hM7
    obtain ⟨k, nL, P, hk, hnL, rfl, hP, hM⟩ := hrel
    have HP := Lib.hid hP
    have HM := Lib.hid hM
    clear hP
    by_cases hlt : k < N
    · obtain ⟨x, hx⟩ := get_some wl k (by rw [HN.out]; exact hlt)
      obtain ⟨bx, ox, cx, hv, hbx, hnx, c1, hx64⟩ := Hu.out.at hM.below hx
      rw [HN.out] at hv
      cases hv
      have hxk := Hk.out.2.2 x (List.mem_of_getElem? hx)
      obtain ⟨i, rfl⟩ : ∃ i : Nat, x = (i : Int) := ⟨x.toNat, by omega⟩
      obtain ⟨y, hy⟩ := get_some dist i (by rw [Hdl.out]; omega)
      obtain ⟨bd, od, cdd, hvd, hbd, hnd, c2, _⟩ := (isInts_dist HG.out HF.out 2 hM rfl).at (Below.refl _ _) hy
      rw [Hdl.out] at hvd
      cases hvd
      have hts := take_succ_some _ _ _ hx
      have hyl : y < 0 ↔ ¬ ReachP g (i : Int) := by
        rw [← HF.out.reachP, ← HF.out.inv.found (j := (i : Int)) (by omega)]
        unfold D
        simp only [Int.toNat_natCast]
        rw [List.getD_eq_getElem?_getD, hy]
        simp
      have hnxt : ∀ z, LostP g (wl.take (k + 1)) z ↔ LostP g (wl.take k) z ∨ (z = (i : Int) ∧ y < 0) := by
        intro z
        unfold LostP
        rw [hts, List.mem_append, List.mem_singleton, hyl]
        constructor
        · rintro ⟨h1 | rfl, h2⟩
          · exact .inl ⟨h1, h2⟩
          · exact .inr ⟨rfl, h2⟩
        · rintro (⟨h1, h2⟩ | ⟨rfl, h2⟩)
          · exact ⟨.inl h1, h2⟩
          · exact ⟨.inr rfl, h2⟩
      have Hnxt := Lib.hid hnxt
      have Hx64 := Lib.hid hx64
      clear hx hy hts hyl hnxt hM hx64
      have hi24 : i < g.objs.length := by omega
      rcases hy0 : decide (y < 0) with _ | _
      · have Hn := Lib.hid (show ¬ y < 0 by simpa using hy0)
        go_wp2
        go_roundw
        case rel => exact ⟨k + 1, nL, P, by omega, by omega, by go_num, by intro z; rw [Hnxt.out, HP.out]; exact ⟨.inl, fun h => by rcases h with h | h; exact h; exact (Hn.out h.2).elim⟩, HM.out⟩
        case measure => simp [intOf]; omega
      · have Hn := Lib.hid (show y < 0 by simpa using hy0)
        go_wp2_with (at_mapUpdate; refine Mem.wp_putG (M := mapII) rfl _ _ _ rfl HM.out 0 rfl (by omega) rfl (i : Int) (.int .i64 1) rfl rfl Hx64.out ?_; intro w5 hM8 hs8)
        go_roundw
        case rel => exact ⟨k + 1, nL + 1, fun z => P z ∨ z = (i : Int), by omega, by omega, by go_num, by intro z; rw [Hnxt.out, ← HP.out]; exact ⟨fun h => by rcases h with h | h; exact .inl h; exact .inr ⟨h, Hn.out⟩, fun h => by rcases h with h | h; exact .inl h; exact .inr h.1⟩, hM8.cast (by rw [setF_put P _ (i : Int) (fun _ => Iff.rfl)]; rfl)⟩
        case measure => simp [intOf]; omega
    · obtain rfl : N = k := by omega
      rw [List.take_of_length_le (by rw [HN.out]; exact Nat.le_refl _)] at HP
      obtain ⟨w4, hw4⟩ : ∃ w4, w4 = wr := ⟨_, rfl⟩
      subst hw4
      have hM8 := (hM.newMapAt mapII w4.heap.size rfl).newMapAt mapII (w4.heap.size + 1) (by simp)
      have HM8 := Lib.hid hM8
      clear hM HM hM8
      go_wp2_with (at_range; refine Mem.wp_rangeG (M := mapII) rfl _ rfl HM8.out 2 rfl rfl ?_; intro w5 r cnt mo ro hM9 hR9 hcnt hr9 hs9 hb9)
      go_frame
      have hM10 : Mem w.heap.size w w5 [efix r ro, gmap mapII (w4.heap.size + 1) 0 (setF (HeldD g fun i => LostP g wl i ∧ (setF P i).isSome = false)), gmap mapII w4.heap.size 0 (setF (SavedD g fun i => LostP g wl i ∧ (setF P i).isSome = false)), efix w3.heap.size mo, ebox w.heap.size #[.slice ao g.objs.length co, .slice ar g.roots.length cr] 25, rowI 3 (.slice ad g.objs.length cd) dist] := by
        have hno : ∀ i, ¬ (LostP g wl i ∧ (setF P i).isSome = false) := by
          rintro i ⟨h1, h2⟩
          rw [(setF_some i).2 ((HP.out i).2 h1)] at h2
          cases h2
        have e1 : (setF (HeldD g fun i => LostP g wl i ∧ (setF P i).isSome = false)) = fun _ => none := by
          rw [← setF_nil]; exact setF_congr fun x => ⟨fun ⟨i, h, _⟩ => (hno i h).elim, fun h => h.elim⟩
        have e2 : (setF (SavedD g fun i => LostP g wl i ∧ (setF P i).isSome = false)) = fun _ => none := by
          rw [← setF_nil]; exact setF_congr fun x => ⟨fun ⟨i, h, _⟩ => (hno i h).elim, fun h => h.elim⟩
        rw [e1, e2]; exact hM9
      have HM10 := Lib.hid hM10
      have HR9 := Lib.hid hR9
      clear hM9 hM10 hR9 hr9 hb9 HM8
      go_loopg [15] cnt (fun gk s15 wr => ∃ (nH nS : Nat) (left : Int → Bool) (ro : Obj), nH + 25 * gk ≤ 25 * cnt ∧ nS + 25 * gk ≤ 25 * cnt ∧ Ranging mapII w3.heap.size r nL (setF P) left gk mo ro ∧
        Mem w.heap.size w wr [efix r ro, gmap mapII (w4.heap.size + 1) nH (setF (HeldD g fun i => LostP g wl i ∧ left i = false)), gmap mapII w4.heap.size nS (setF (SavedD g fun i => LostP g wl i ∧ left i = false)), efix w3.heap.size mo, ebox w.heap.size #[.slice ao g.objs.length co, .slice ar g.roots.length cr] 25, rowI 3 (.slice ad g.objs.length cd) dist])
      case atStart => exact ⟨0, 0, _, _, by omega, by omega, HR9.out, HM10.out⟩
      case round =>
        clear HM10 HR9
        obtain ⟨nH, nS, left, ro5, hnH, hnS, hR, hM⟩ := hrel
        have HM := Lib.hid hM
        have HR := Lib.hid hR
        clear hM hR
        obtain ⟨p0, p1⟩ := HM.out.cells2 4 rfl
        have z0 : w.heap.size < wr.heap.size := (HM.out.box 4 rfl).2.1
        have HgW := Lib.hid (Hg.out.later HM.out.below)
        go_wp2_with (first
          | (at_next; refine Mem.wp_nextII rfl _ rfl HM.out 0 3 rfl rfl HR.out rfl ?_ ?_; (focus (intro hc0 hl0)); rotate_left; (focus (intro x v w6 c6 ro6 hx6 hl6 hf6 hM11 hR11 hlt6 hs6 hen6; obtain ⟨hPx, rfl⟩ := setF_get hf6)))
          | (at_mapUpdate; refine Mem.wp_putG (M := mapII) rfl (.tmp 60) (.tmp 61) _ rfl hM11 2 rfl (by omega) rfl x (.int .i64 1) rfl rfl hx6 ?_; intro w7 hM12 hs7; obtain ⟨q0, q1⟩ := hM12.cells2 4 rfl))
        · have hx2 := Hk.out.2.2 x ((HP.out x).1 hPx).1
          obtain ⟨i, rfl⟩ : ∃ i : Nat, x = (i : Int) := ⟨x.toNat, by omega⟩
          have hi : i < g.objs.length := by omega
          have HM12 := Lib.hid hM12
          have HR11 := Lib.hid hR11
          have Hl6 := Lib.hid hl6
          have HPx := Lib.hid hPx
          have Hx6 := Lib.hid hx6
          clear hM12 hM11 hR11 hl6 hf6 hen6 hPx hx2 HM HR HgW p0 p1 z0 hx6
          refine (lastLeads_any g HG.out _ i _ (Hg.out.later HM12.out.below) hi).mono ?_
          rintro e w8 ⟨vl8, l8, dist8, rfl, hF8, hM8⟩
          have hM13 := HM12.out.callMem hM8
          have hl8n : l8.length ≤ 24 := by have := hF8.inv.length_le; unfold fromG at this; simp only at this; omega
          have Hrng8 : Hid (∀ y ∈ l8, 0 ≤ y ∧ y < (g.objs.length : Int)) := Lib.hid (fun y hy => by have := hF8.inv.rng y hy; unfold fromG at this; exact this)
          have HF8 := Lib.hid (fun y => hF8.leadP (i := (i : Int)) y)
          obtain ⟨a8, c8, rfl⟩ := hM13.intsSlice 0 rfl
          have hM14 : Mem w.heap.size w w8 [rowI 3 (.slice a8 l8.length c8) l8, efix r ro6, gmap mapII (w4.heap.size + 1) nH (setF (HeldM g (fun i => LostP g wl i ∧ left i = false) (i : Int) (l8.take 0))), gmap mapII w4.heap.size (nS + 1) (setF (SavedM g (fun i => LostP g wl i ∧ left i = false) (i : Int) (l8.take 0))), efix w3.heap.size mo, ebox w.heap.size #[.slice ao g.objs.length co, .slice ar g.roots.length cr] 25, rowI 3 (.slice ad g.objs.length cd) dist] := by
            refine hM13.cast ?_
            rw [List.take_zero, setF_congr (fun x => HeldM.nil (g := g) (Dn := fun i => LostP g wl i ∧ left i = false) (i := (i : Int)) x)]
            simp only [List.set_cons_succ, List.set_cons_zero, List.cons_append, List.nil_append]
            rw [← setF_put (SavedD g fun i => LostP g wl i ∧ left i = false) (SavedM g (fun i => LostP g wl i ∧ left i = false) (i : Int) []) (i : Int) (fun x => SavedM.nil x)]
          have HM14 := Lib.hid hM14
          clear hM13 hM8 hF8 hM14
          go_wp2
          go_loopw [66] (fun jv wr => ∃ (j mH mS : Nat), j ≤ l8.length ∧ jv = .int .i64 j ∧ mH ≤ nH + j ∧ mS ≤ nS + 1 + j ∧
            Mem w.heap.size w wr [rowI 3 (.slice a8 l8.length c8) l8, efix r ro6, gmap mapII (w4.heap.size + 1) mH (setF (HeldM g (fun i => LostP g wl i ∧ left i = false) (i : Int) (l8.take j))), gmap mapII w4.heap.size mS (setF (SavedM g (fun i => LostP g wl i ∧ left i = false) (i : Int) (l8.take j))), efix w3.heap.size mo, ebox w.heap.size #[.slice ao g.objs.length co, .slice ar g.roots.length cr] 25, rowI 3 (.slice ad g.objs.length cd) dist]) (fun jv _ => l8.length - (intOf jv).toNat)
          case atStart => exact ⟨0, nH, nS + 1, Nat.zero_le _, rfl, by omega, by omega, HM14.out⟩
          case round =>
            clear HM14
            obtain ⟨j, mH, mS, hj, rfl, hmH, hmS, hM⟩ := hrel
            by_cases hlj : j < l8.length
            · obtain ⟨y, hy⟩ := get_some _ _ hlj
              have hyr := Hrng8.out y (List.mem_of_getElem? hy)
              obtain ⟨c, rfl⟩ : ∃ c : Nat, y = (c : Int) := ⟨y.toNat, by omega⟩
              have hc24 : c < g.objs.length := by omega
              obtain ⟨b8, o8, c8', hv, hb8, hn8, c1, _⟩ := (isInts_small hM 0 rfl (by omega) (fun x hx => by have := Hrng8.out x hx; omega)).at (Below.refl _ _) hy
              cases hv
              obtain ⟨dv, hdv⟩ := get_some dist c (by rw [Hdl.out]; omega)
              have hID := isInts_dist HG.out HF.out 6 hM rfl
              obtain ⟨bd, od, cdd, hvd, hbd, hnd, c2, _⟩ := hID.at (Below.refl _ _) hdv
              rw [Hdl.out] at hvd
              cases hvd
              have hyl : dv < 0 ↔ ¬ ReachP g (c : Int) := by
                rw [← HF.out.reachP, ← HF.out.inv.found (j := (c : Int)) (by omega)]
                unfold D
                simp only [Int.toNat_natCast]
                rw [List.getD_eq_getElem?_getD, hdv]
                simp
              have hts := take_succ_some _ _ _ hy
              have Hyl := Lib.hid hyl
              have HS' : Hid (∀ x, SavedM g (fun i => LostP g wl i ∧ left i = false) (i : Int) (l8.take (j + 1)) x ↔ SavedM g (fun i => LostP g wl i ∧ left i = false) (i : Int) (l8.take j) x ∨ (x = (c : Int) ∧ ¬ ReachP g (c : Int))) := Lib.hid (fun x => by rw [hts]; exact SavedM.snoc x)
              have HH' : Hid (∀ x, HeldM g (fun i => LostP g wl i ∧ left i = false) (i : Int) (l8.take (j + 1)) x ↔ HeldM g (fun i => LostP g wl i ∧ left i = false) (i : Int) (l8.take j) x ∨ (x = (c : Int) ∧ (c : Int) ≠ (i : Int))) := Lib.hid (fun x => by rw [hts]; exact HeldM.snoc x)
              have Hc64 : Hid (i64ok (c : Int)) := Lib.hid ⟨by omega, by omega⟩
              have HM := Lib.hid hM
              clear hy hyr hdv hID hyl hts hM
              by_cases hci : c = i
              · subst hci
                have hne : ((c : Int) != (c : Int)) = false := by simp
                have HH0 : Hid (setF (HeldM g (fun i => LostP g wl i ∧ left i = false) (c : Int) (l8.take (j + 1))) = setF (HeldM g (fun i => LostP g wl i ∧ left i = false) (c : Int) (l8.take j))) := Lib.hid (setF_congr fun x => by rw [HH'.out]; exact ⟨fun h => by rcases h with h | h; exact h; exact absurd rfl h.2, .inl⟩)
                rcases hd0 : decide (dv < 0) with _ | _
                · have Hn := Lib.hid (show ¬ dv < 0 by simpa using hd0)
                  go_wp2
                  go_roundw
                  case rel => exact ⟨j + 1, mH, mS, by omega, by go_num, by omega, by omega, HM.out.cast (by rw [HH0.out, setF_congr (P := SavedM g _ _ (l8.take (j + 1))) (fun x => (HS'.out x).trans ⟨fun h => by rcases h with h | h; exact h; exact (Hn.out (Hyl.out.2 h.2)).elim, .inl⟩)])⟩
                  case measure => simp [intOf]; omega
                · have Hn := Lib.hid (show dv < 0 by simpa using hd0)
                  go_wp2_with (at_mapUpdate; refine Mem.wp_putG (M := mapII) rfl (.tmp 75) (.tmp 76) _ rfl HM.out 3 rfl (by omega) rfl (c : Int) (.int .i64 1) rfl rfl Hc64.out ?_; intro w9 hM15 hs9)
                  go_roundw
                  case rel => exact ⟨j + 1, mH, mS + 1, by omega, by go_num, by omega, by omega, hM15.cast (by rw [HH0.out, setF_put _ (SavedM g (fun i => LostP g wl i ∧ left i = false) (c : Int) (l8.take (j + 1))) (c : Int) (fun x => (HS'.out x).trans ⟨fun h => by rcases h with h | h; exact .inl h; exact .inr h.1, fun h => by rcases h with h | h; exact .inl h; exact .inr ⟨h, Hyl.out.1 Hn.out⟩⟩)]; rfl)⟩
                  case measure => simp [intOf]; omega
              · have hne : ((c : Int) != (i : Int)) = true := by simp; omega
                have hne2 : ((c : Int) == (i : Int)) = false := by simp; omega
                have Hci := Lib.hid hci
                rcases hd0 : decide (dv < 0) with _ | _
                · have Hn := Lib.hid (show ¬ dv < 0 by simpa using hd0)
                  go_wp2_with (at_mapUpdate; refine Mem.wp_putG (M := mapII) rfl (.tmp 80) (.tmp 81) _ rfl HM.out 2 rfl (by omega) rfl (c : Int) (.int .i64 1) rfl rfl Hc64.out ?_; intro w9 hM15 hs9)
                  go_roundw
                  case rel => exact ⟨j + 1, mH + 1, mS, by omega, by go_num, by omega, by omega, hM15.cast (by rw [setF_congr (P := SavedM g _ _ (l8.take (j + 1))) (fun x => (HS'.out x).trans ⟨fun h => by rcases h with h | h; exact h; exact (Hn.out (Hyl.out.2 h.2)).elim, .inl⟩), setF_put _ (HeldM g (fun i => LostP g wl i ∧ left i = false) (i : Int) (l8.take (j + 1))) (c : Int) (fun x => (HH'.out x).trans ⟨fun h => by rcases h with h | h; exact .inl h; exact .inr h.1, fun h => by rcases h with h | h; exact .inl h; exact .inr ⟨h, fun e => Hci.out (by omega)⟩⟩)]; rfl)⟩
                  case measure => simp [intOf]; omega
                · have Hn := Lib.hid (show dv < 0 by simpa using hd0)
                  go_wp2_with (first
                    | (at_mapUpdate; refine Mem.wp_putG (M := mapII) rfl (.tmp 75) (.tmp 76) _ rfl HM.out 3 rfl (by omega) rfl (c : Int) (.int .i64 1) rfl rfl Hc64.out ?_; intro w9 hM15 hs9)
                    | (at_mapUpdate; refine Mem.wp_putG (M := mapII) rfl (.tmp 80) (.tmp 81) _ rfl hM15 2 rfl (by omega) rfl (c : Int) (.int .i64 1) rfl rfl Hc64.out ?_; intro w10 hM16 hs10))
                  go_roundw
                  case rel => exact ⟨j + 1, mH + 1, mS + 1, by omega, by go_num, by omega, by omega, hM16.cast (by
                    simp only [List.set_cons_succ, List.set_cons_zero]
                    rw [setF_put (SavedM g (fun i => LostP g wl i ∧ left i = false) (i : Int) (l8.take j)) (SavedM g (fun i => LostP g wl i ∧ left i = false) (i : Int) (l8.take (j + 1))) (c : Int) (fun x => (HS'.out x).trans ⟨fun h => by rcases h with h | h; exact .inl h; exact .inr h.1, fun h => by rcases h with h | h; exact .inl h; exact .inr ⟨h, Hyl.out.1 Hn.out⟩⟩),
                      setF_put (HeldM g (fun i => LostP g wl i ∧ left i = false) (i : Int) (l8.take j)) (HeldM g (fun i => LostP g wl i ∧ left i = false) (i : Int) (l8.take (j + 1))) (c : Int) (fun x => (HH'.out x).trans ⟨fun h => by rcases h with h | h; exact .inl h; exact .inr h.1, fun h => by rcases h with h | h; exact .inl h; exact .inr ⟨h, fun e => Hci.out (by omega)⟩⟩)])⟩
                  case measure => simp [intOf]; omega
            · obtain rfl : j = l8.length := by omega
              rw [List.take_length] at hM
              have hdn : ∀ y, (LostP g wl y ∧ (left y && !decide (y = (i : Int))) = false) ↔ (LostP g wl y ∧ left y = false) ∨ y = (i : Int) := by
                intro y
                have hli := (HP.out (i : Int)).1 HPx.out
                by_cases e : y = (i : Int)
                · subst e; simp [hli]
                · simp [e]
              have hM17 : Mem w.heap.size w wr [efix r ro6, gmap mapII (w4.heap.size + 1) mH (setF (HeldD g fun y => LostP g wl y ∧ (left y && !decide (y = (i : Int))) = false)), gmap mapII w4.heap.size mS (setF (SavedD g fun y => LostP g wl y ∧ (left y && !decide (y = (i : Int))) = false)), efix w3.heap.size mo, ebox w.heap.size #[.slice ao g.objs.length co, .slice ar g.roots.length cr] 25, rowI 3 (.slice ad g.objs.length cd) dist] := by
                have h0 := hM.drop (List.sublist_cons_self _ _)
                rw [setF_congr (HeldM.all HF8.out), setF_congr (SavedM.all HF8.out)] at h0
                rw [setF_congr (HeldD.congr hdn), setF_congr (SavedD.congr hdn)]
                exact h0
              have HM17 := Lib.hid hM17
              clear hM hM17 hdn
              go_wp2
              go_roundg c6
              case rel => exact ⟨mH, mS, _, ro6, by omega, by omega, HR11.out, HM17.out⟩
              case measure => omega
        · have hdone : ∀ y, (LostP g wl y ∧ left y = false) ↔ LostP g wl y := fun y => ⟨fun h => h.1, fun h => ⟨h, hl0 y (by have := Hk.out.2.2 y h.1; exact ⟨by omega, by omega⟩)⟩⟩
          have hM20 := (HM.out.rangeEnd 3 rfl HR.out)
          have hM21 : Mem w.heap.size w wr [gmap mapII (w4.heap.size + 1) nH (setF (HeldP g wl)), gmap mapII w4.heap.size nS (setF (SavedP g wl)), gmap mapII w3.heap.size nL (setF (LostP g wl)), ebox w.heap.size #[.slice ao g.objs.length co, .slice ar g.roots.length cr] 25] := by
            have h1 := hM20.pick0 (A' := [gmap mapII (w4.heap.size + 1) nH (setF (HeldD g fun i => LostP g wl i ∧ left i = false)), gmap mapII w4.heap.size nS (setF (SavedD g fun i => LostP g wl i ∧ left i = false)), gmap mapII w3.heap.size nL (setF P), ebox w.heap.size #[.slice ao g.objs.length co, .slice ar g.roots.length cr] 25]) [1, 2, 3, 4] (by decide) rfl
            rw [setF_congr (HeldD.congr hdone), setF_congr (SavedD.congr hdone), setF_congr HP.out] at h1
            exact h1
          have hM22 : Mem w.heap.size w wr [rowI 3 (.slice none 0 0) (selL (SavedP g wl) 0), rowI 3 (.slice none 0 0) (selL (fun i => LostP g wl i ∧ ¬ HeldP g wl i) 0), gmap mapII (w4.heap.size + 1) nH (setF (HeldP g wl)), gmap mapII w4.heap.size nS (setF (SavedP g wl)), gmap mapII w3.heap.size nL (setF (LostP g wl)), ebox w.heap.size #[.slice ao g.objs.length co, .slice ar g.roots.length cr] 25] := (hM21.nilI 3).nilI 3
          clear hM20 hM21 hdone hl0 HM HR HgW
          go_loopw [18, 19, 86] (fun rv sv iv wr => ∃ k : Nat, k ≤ g.objs.length ∧ iv = .int .i64 k ∧
            Mem w.heap.size w wr [rowI 3 sv (selL (SavedP g wl) k), rowI 3 rv (selL (fun i => LostP g wl i ∧ ¬ HeldP g wl i) k), gmap mapII (w4.heap.size + 1) nH (setF (HeldP g wl)), gmap mapII w4.heap.size nS (setF (SavedP g wl)), gmap mapII w3.heap.size nL (setF (LostP g wl)), ebox w.heap.size #[.slice ao g.objs.length co, .slice ar g.roots.length cr] 25]) (fun _ _ iv _ => g.objs.length - (intOf iv).toNat)
          case atStart => exact ⟨0, Nat.zero_le _, rfl, hM22⟩
          case round =>
            clear hM22 p0 p1 z0
            obtain ⟨k, hk, rfl, hM⟩ := hrel
            by_cases hlt : k < g.objs.length
            · have hk64 : i64ok (k : Int) := ⟨by omega, by omega⟩
              have hlS := selL_len (SavedP g wl) k
              have hlR := selL_len (fun i => LostP g wl i ∧ ¬ HeldP g wl i) k
              have HlS := Lib.hid (show (selL (SavedP g wl) k).length ≤ 24 by omega)
              have HlR := Lib.hid (show (selL (fun i => LostP g wl i ∧ ¬ HeldP g wl i) k).length ≤ 24 by omega)
              have HM := Lib.hid hM
              by_cases hL : LostP g wl (k : Int)
              · have l1 := look_yes (hM.get 4 rfl) hk64 hL
                have HL := Lib.hid hL
                by_cases hH : HeldP g wl (k : Int)
                · have l2 := look_yes (hM.get 2 rfl) hk64 hH
                  have HRn := Lib.hid (selL_no (P := fun i => LostP g wl i ∧ ¬ HeldP g wl i) (k := k) (fun h => h.2 hH))
                  by_cases hS : SavedP g wl (k : Int)
                  · have l3 := look_yes (hM.get 3 rfl) hk64 hS
                    have HSn := Lib.hid (selL_yes (P := SavedP g wl) (k := k) hS)
                    clear hL hH hS hM hlS hlR hk64
                    go_wp2_with (at_builtin; refine Mem.wp_appI elemInts rfl (.tmp 107) (.tmp 109) rfl HM.out 0 rfl rfl _ (k : Int) _ _ rfl (by simp) (by have := HlS.out; omega) ?_; intro ad2 n1 cp w9 hn1 hM3 hs1 hk1 ha1)
                    go_roundw
                    case rel => exact ⟨k + 1, by omega, by go_num, hM3.cast (by rw [HRn.out, HSn.out]; rfl)⟩
                    case measure => simp [intOf]; omega
                  · have l3 := look_no (hM.get 3 rfl) hk64 hS
                    have HSn := Lib.hid (selL_no (P := SavedP g wl) (k := k) hS)
                    clear hL hH hS hM hlS hlR hk64
                    go_wp2
                    go_roundw
                    case rel => exact ⟨k + 1, by omega, by go_num, HM.out.cast (by rw [HRn.out, HSn.out])⟩
                    case measure => simp [intOf]; omega
                · have l2 := look_no (hM.get 2 rfl) hk64 hH
                  have HRn := Lib.hid (selL_yes (P := fun i => LostP g wl i ∧ ¬ HeldP g wl i) (k := k) ⟨hL, hH⟩)
                  have hS : SavedP g wl (k : Int) := ⟨_, hL, .inl rfl⟩
                  have HSn := Lib.hid (selL_yes (P := SavedP g wl) (k := k) hS)
                  have HS := Lib.hid hS
                  have Hk64 := Lib.hid hk64
                  clear hL hH hS hM hlS hlR hk64
                  go_wp2_with (first
                    | (at_builtin; refine Mem.wp_appI elemInts rfl (.tmp 99) (.tmp 101) rfl HM.out 1 rfl rfl _ (k : Int) _ _ rfl (by simp) (by have := HlR.out; omega) ?_; intro ad2 n1 cp w9 hn1 hM3 hs1 hk1 ha1; have l3 := look_yes (hM3.get 3 rfl) Hk64.out HS.out)
                    | (at_builtin; refine Mem.wp_appI elemInts rfl (.tmp 107) (.tmp 109) rfl hM3 0 rfl rfl _ (k : Int) _ _ rfl (by simp) (by have := HlS.out; omega) ?_; intro ad3 n2 cp2 w10 hn2 hM4 hs2 hk2 ha2))
                  go_roundw
                  case rel => exact ⟨k + 1, by omega, by go_num, hM4.cast (by rw [HRn.out, HSn.out]; rfl)⟩
                  case measure => simp [intOf]; omega
              · have l1 := look_no (hM.get 4 rfl) hk64 hL
                have HRn := Lib.hid (selL_no (P := fun i => LostP g wl i ∧ ¬ HeldP g wl i) (k := k) (fun h => hL h.1))
                by_cases hS : SavedP g wl (k : Int)
                · have l3 := look_yes (hM.get 3 rfl) hk64 hS
                  have HSn := Lib.hid (selL_yes (P := SavedP g wl) (k := k) hS)
                  clear hL hS hM hlS hlR hk64
                  go_wp2_with (at_builtin; refine Mem.wp_appI elemInts rfl (.tmp 107) (.tmp 109) rfl HM.out 0 rfl rfl _ (k : Int) _ _ rfl (by simp) (by have := HlS.out; omega) ?_; intro ad2 n1 cp w9 hn1 hM3 hs1 hk1 ha1)
                  go_roundw
                  case rel => exact ⟨k + 1, by omega, by go_num, hM3.cast (by rw [HRn.out, HSn.out]; rfl)⟩
                  case measure => simp [intOf]; omega
                · have l3 := look_no (hM.get 3 rfl) hk64 hS
                  have HSn := Lib.hid (selL_no (P := SavedP g wl) (k := k) hS)
                  clear hL hS hM hlS hlR hk64
                  go_wp2
                  go_roundw
                  case rel => exact ⟨k + 1, by omega, by go_num, HM.out.cast (by rw [HRn.out, HSn.out])⟩
                  case measure => simp [intOf]; omega
            · obtain rfl : k = g.objs.length := by omega
              have hLS := lastS_of g wl
              have hI0 := isInts_small hM 0 rfl (by have := selL_len (SavedP g wl) g.objs.length; omega) (fun x hx => by have := mem_selL.1 hx; omega)
              have hI1 := isInts_small hM 1 rfl (by have := selL_len (fun i => LostP g wl i ∧ ¬ HeldP g wl i) g.objs.length; omega) (fun x hx => by have := mem_selL.1 hx; omega)
              have HI0 := Lib.hid hI0
              have HI1 := Lib.hid hI1
              have HLS := Lib.hid hLS
              have HB := Lib.hid hM.below
              clear hM hI0 hI1 hLS
              go_wp2
              refine bodyPost_ret (v := .tuple #[_, _, .int .i64 0]) (by simp [results, Try.results25, go_sem]) rfl ⟨_, _, _, _, rfl, HLS.out, HI1.out, HI0.out, HB.out⟩
end Go.Proofs.Ytnpbdabboecpaaa
