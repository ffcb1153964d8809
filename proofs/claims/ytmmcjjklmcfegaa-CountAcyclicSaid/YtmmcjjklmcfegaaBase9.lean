/- Texts Du Dw Re Ddg in one. -/
import Derived.Test.YtmmcjjklmcfegaaBase3
import Derived.Test.YtmmcjjklmcfegaaBase4
import Derived.Laws.EntriesVeiled
import Derived.Test.YtmmcjjklmcfegaaSh
import Derived.Test.YtmmcjjklmcfegaaBase1
import Derived.Laws.CopyOwn
import Derived.BigQuiet
import Derived.StillTailTactics
import Derived.Deep.RegionHeld3
import Derived.IntWalk
import Derived.Test.YtmmcjjklmcfegaaBase2
import Derived.Deep.LoopGhost
/- Counts that solve a graph: least, greatest. Plain. -/
namespace Go.Proofs.Ytmmcjjklmcfegaa

def inc1 (l : List Int) (j : Int) : List Int := l.set j.toNat (l.getD j.toNat 0 + 1)
def incs (l : List Int) (ts : List Int) : List Int := ts.foldl inc1 l
def cnt0 (g : G) : List Int := incs (List.replicate g.objs.length 0) (targets g.roots)
def cntAt (g : G) (c : List Int) : Nat → List Int
  | 0 => cnt0 g
  | k + 1 => if 0 < c.getD k 0 then incs (cntAt g c k) (targets (fieldsAt g k)) else cntAt g c k
def counted (g : G) (c : List Int) : List Int := cntAt g c g.objs.length

theorem inc1_len (l : List Int) (j : Int) : (inc1 l j).length = l.length := by simp [inc1]
theorem incs_len : ∀ (ts l : List Int), (incs l ts).length = l.length
  | [], _ => rfl
  | t :: ts, l => by show (incs (inc1 l t) ts).length = _; rw [incs_len ts, inc1_len]
theorem incs_snoc (l ts : List Int) (t : Int) : incs l (ts ++ [t]) = inc1 (incs l ts) t := by simp [incs]
theorem cntAt_len (g : G) (c : List Int) : ∀ k, (cntAt g c k).length = g.objs.length
  | 0 => by simp [cntAt, cnt0, incs_len]
  | k + 1 => by
    unfold cntAt
    split
    · rw [incs_len, cntAt_len g c k]
    · exact cntAt_len g c k
theorem counted_len (g : G) (c : List Int) : (counted g c).length = g.objs.length := cntAt_len g c _

theorem inc1_get {l : List Int} {t : Int} (ht : 0 ≤ t ∧ t < l.length) (j : Nat) : (inc1 l t).getD j 0 = l.getD j 0 + if t = (j : Int) then 1 else 0 := by
  unfold inc1
  rw [getD_set (by omega)]
  by_cases h : t = (j : Int)
  · subst h; simp
  · rw [if_neg h, if_neg (by omega)]; omega
theorem incs_get : ∀ (ts l : List Int), (∀ t ∈ ts, 0 ≤ t ∧ t < (l.length : Int)) → ∀ j : Nat, (incs l ts).getD j 0 = l.getD j 0 + (ts.count (j : Int) : Int)
  | [], l, _, j => by simp [incs]
  | t :: ts, l, h, j => by
    show (incs (inc1 l t) ts).getD j 0 = _
    rw [incs_get ts (inc1 l t) (by intro x hx; rw [inc1_len]; exact h x (by simp [hx])) j, inc1_get (h t (by simp)), List.count_cons]
    by_cases e : t = (j : Int)
    · simp [e]; omega
    · have : (t == (j : Int)) = false := by simpa using e
      simp [e, this]
theorem cnt0_get {g : G} (hG : Good g) (j : Nat) : (cnt0 g).getD j 0 = ((targets g.roots).count (j : Int) : Int) := by
  unfold cnt0
  rw [incs_get _ _ (by intro t ht; have := hG.target (roots_all g) ht; simpa using this)]
  rw [List.getD_eq_getElem?_getD, List.getElem?_replicate]
  split <;> simp
theorem cntAt_get {g : G} (hG : Good g) (c : List Int) (k : Nat) (j : Nat) : (cntAt g c (k + 1)).getD j 0 = (cntAt g c k).getD j 0 + if 0 < c.getD k 0 then ((targets (fieldsAt g k)).count (j : Int) : Int) else 0 := by
  show (if 0 < c.getD k 0 then incs (cntAt g c k) (targets (fieldsAt g k)) else cntAt g c k).getD j 0 = _
  split
  · rw [incs_get _ _ (by intro t ht; rw [cntAt_len]; exact hG.target (fields_all g k) ht)]
  · simp
/-- What is positive in the one is positive in the other. -/
def Pos (c d : List Int) : Prop := ∀ i : Nat, 0 < c.getD i 0 → 0 < d.getD i 0
theorem cntAt_mono {g : G} (hG : Good g) {c d : List Int} (h : Pos c d) : ∀ (k j : Nat), (cntAt g c k).getD j 0 ≤ (cntAt g d k).getD j 0
  | 0, _ => Int.le_refl _
  | k + 1, j => by
    rw [cntAt_get hG, cntAt_get hG]
    have := cntAt_mono hG h k j
    by_cases hc : 0 < c.getD k 0
    · rw [if_pos hc, if_pos (h k hc)]; omega
    · rw [if_neg hc]
      split <;> omega
theorem counted_mono {g : G} (hG : Good g) {c d : List Int} (h : Pos c d) (j : Nat) : (counted g c).getD j 0 ≤ (counted g d).getD j 0 := cntAt_mono hG h _ j
theorem ext_getD {c d : List Int} (hl : c.length = d.length) (h : ∀ j : Nat, c.getD j 0 = d.getD j 0) : c = d := by
  apply List.ext_getElem hl
  intro i h1 h2
  have := h i
  rw [List.getD_eq_getElem?_getD, List.getD_eq_getElem?_getD, List.getElem?_eq_getElem h1, List.getElem?_eq_getElem h2] at this
  exact this
theorem counted_pos {g : G} (hG : Good g) {c d : List Int} (h : Pos c d) (h' : Pos d c) : counted g c = counted g d :=
  ext_getD (by rw [counted_len, counted_len]) (fun j => by have := counted_mono hG h j; have := counted_mono hG h' j; omega)
theorem count_le (l : List Int) (x : Int) : l.count x ≤ l.length := List.count_le_length
theorem targets_len (l : List V) : (targets l).length ≤ l.length := by unfold targets; rw [List.length_map]; exact List.length_filter_le _ _
theorem cntAt_bound {g : G} (hG : Good g) (c : List Int) : ∀ (k j : Nat), 0 ≤ (cntAt g c k).getD j 0 ∧ (cntAt g c k).getD j 0 ≤ 8 + 4 * k
  | 0, j => by
    show 0 ≤ (cnt0 g).getD j 0 ∧ (cnt0 g).getD j 0 ≤ _
    rw [cnt0_get hG]
    have h1 := count_le (targets g.roots) (j : Int)
    have h2 := targets_len g.roots
    have h3 := hG.roots
    omega
  | k + 1, j => by
    rw [cntAt_get hG]
    have ih := cntAt_bound hG c k j
    have h1 := count_le (targets (fieldsAt g k)) (j : Int)
    have h2 := targets_len (fieldsAt g k)
    have h3 := fieldsAt_len hG k
    split <;> omega
theorem counted_bound {g : G} (hG : Good g) (c : List Int) (j : Nat) : 0 ≤ (counted g c).getD j 0 ∧ (counted g c).getD j 0 ≤ 104 := by
  have := cntAt_bound hG c g.objs.length j
  have := hG.objs
  unfold counted
  omega

/-- How many are positive. -/
def npos (n : Nat) (c : List Int) : Nat := (List.range n).countP fun i => decide (0 < c.getD i 0)
theorem npos_le (n : Nat) (c : List Int) : npos n c ≤ n := by have := List.countP_le_length (p := fun i => decide (0 < c.getD i 0)) (l := List.range n); simpa [npos] using this
theorem npos_mono {c d : List Int} (h : Pos c d) (n : Nat) : npos n c ≤ npos n d := by
  unfold npos
  exact List.countP_mono_left (fun i _ hi => by simp only [decide_eq_true_eq] at hi ⊢; exact h i hi)
theorem npos_lt {c d : List Int} {n : Nat} (h : Pos c d) (hn : d.length = n) (hne : ¬ Pos d c) : npos n c < npos n d := by
  obtain ⟨i, h1, h2⟩ : ∃ i : Nat, 0 < d.getD i 0 ∧ ¬ 0 < c.getD i 0 := by
    rcases Classical.em (∃ i : Nat, 0 < d.getD i 0 ∧ ¬ 0 < c.getD i 0) with h | h
    · exact h
    · exact absurd (fun i hi => Classical.byContradiction fun h' => h ⟨i, hi, h'⟩) hne
  have hi : i < n := by
    rcases Nat.lt_or_ge i n with h | h
    · exact h
    · rw [List.getD_eq_getElem?_getD, List.getElem?_eq_none (by omega)] at h1; simp at h1
  obtain ⟨a, b, hab⟩ := List.append_of_mem (List.mem_range.2 hi)
  unfold npos
  rw [hab, List.countP_append, List.countP_append, List.countP_cons, List.countP_cons]
  have ha : a.countP (fun i => decide (0 < c.getD i 0)) ≤ a.countP (fun i => decide (0 < d.getD i 0)) := List.countP_mono_left (fun i _ hi => by simp only [decide_eq_true_eq] at hi ⊢; exact h i hi)
  have hb : b.countP (fun i => decide (0 < c.getD i 0)) ≤ b.countP (fun i => decide (0 < d.getD i 0)) := List.countP_mono_left (fun i _ hi => by simp only [decide_eq_true_eq] at hi ⊢; exact h i hi)
  simp only [decide_eq_true_eq, h1, h2, if_true, if_false]
  omega

/-- How a search for numbers that solve goes on. -/
structure Goes (g : G) (first : Int) (I : List Int → Prop) (m : List Int → Nat) : Prop where
  start : I (List.replicate g.objs.length first)
  len : ∀ l, I l → l.length = g.objs.length
  ok : ∀ l, I l → ∀ j : Nat, 0 ≤ l.getD j 0 ∧ l.getD j 0 ≤ 104
  step : ∀ l, I l → counted g l ≠ l → I (counted g l) ∧ m (counted g l) < m l
theorem pos_same {l : List Int} : Pos l l := fun _ h => h
theorem replicate_getD (n : Nat) (x : Int) (j : Nat) : (List.replicate n x).getD j 0 = if j < n then x else 0 := by
  rw [List.getD_eq_getElem?_getD, List.getElem?_replicate]; split <;> rfl
def Sol (g : G) (c : List Int) : Prop := counted g c = c
theorem goes_least {g : G} (hG : Good g) : Goes g 0 (fun l => l.length = g.objs.length ∧ (∀ j : Nat, 0 ≤ l.getD j 0 ∧ l.getD j 0 ≤ 104) ∧ Pos l (counted g l) ∧ ∀ c, Sol g c → Pos l c)
    (fun l => 2 * (g.objs.length - npos g.objs.length l) + if counted g l = l then 0 else 1) := by
  refine ⟨⟨by simp, ?_, ?_, ?_⟩, fun l h => h.1, fun l h => h.2.1, ?_⟩
  · intro j; rw [replicate_getD]; split <;> omega
  · intro i hi; rw [replicate_getD] at hi; split at hi <;> omega
  · intro c _ i hi; rw [replicate_getD] at hi; split at hi <;> omega
  · intro l ⟨h1, h2, h3, h4⟩ hne
    have hmono := fun j => counted_mono hG h3 j
    refine ⟨⟨counted_len g l, counted_bound hG l, ?_, ?_⟩, ?_⟩
    · intro i hi
      have := hmono i
      omega
    · intro c hc i hi
      have := counted_mono hG (h4 c hc) i
      rw [hc] at this
      omega
    · rw [if_neg hne]
      have hle := npos_le g.objs.length (counted g l)
      have hm := npos_mono h3 g.objs.length
      by_cases hp : Pos (counted g l) l
      · have e := counted_pos hG hp h3
        rw [if_pos e]; omega
      · have := npos_lt h3 (counted_len g l) hp
        split <;> omega
theorem goes_greatest {g : G} (hG : Good g) : Goes g 1 (fun l => l.length = g.objs.length ∧ (∀ j : Nat, 0 ≤ l.getD j 0 ∧ l.getD j 0 ≤ 104) ∧ Pos (counted g l) l ∧ ∀ c, Sol g c → Pos c l)
    (fun l => 2 * npos g.objs.length l + if counted g l = l then 0 else 1) := by
  have hall : ∀ (l : List Int), l.length = g.objs.length → Pos l (List.replicate g.objs.length 1) := by
    intro l hl i hi
    rw [replicate_getD]
    rcases Nat.lt_or_ge i g.objs.length with h | h
    · rw [if_pos h]; omega
    · rw [List.getD_eq_getElem?_getD, List.getElem?_eq_none (by omega)] at hi; simp at hi
  refine ⟨⟨by simp, ?_, hall _ (counted_len g _), ?_⟩, fun l h => h.1, fun l h => h.2.1, ?_⟩
  · intro j; rw [replicate_getD]; split <;> omega
  · intro c hc
    exact hall c (by rw [← hc]; exact counted_len g c)
  · intro l ⟨h1, h2, h3, h4⟩ hne
    have hmono := fun j => counted_mono hG h3 j
    refine ⟨⟨counted_len g l, counted_bound hG l, ?_, ?_⟩, ?_⟩
    · intro i hi
      have := hmono i
      omega
    · intro c hc i hi
      have := counted_mono hG (h4 c hc) i
      rw [hc] at this
      omega
    · rw [if_neg hne]
      have hm := npos_mono h3 g.objs.length
      by_cases hp : Pos l (counted g l)
      · have e := counted_pos hG h3 hp
        rw [if_pos e]; omega
      · have := npos_lt h3 h1 hp
        split <;> omega
/-- The least numbers that solve; the greatest ones. -/
theorem least_le {g : G} (hG : Good g) {l c : List Int} (hl : Sol g l) (h : Pos l c) (hc : Sol g c) (j : Nat) : l.getD j 0 ≤ c.getD j 0 := by
  have := counted_mono hG h j
  rw [hl, hc] at this
  exact this
end Go.Proofs.Ytmmcjjklmcfegaa

/- dual.counted, walked. -/
namespace Go.Proofs.Ytmmcjjklmcfegaa
open Go.RowKit Go.Shelf

attribute [local go_sem] Oper.semAt_some

theorem getD_rep {l : List Int} {j : Nat} (h : j < l.length) : l[j]? = some (l.getD j 0) := by rw [List.getD_eq_getElem?_getD, List.getElem?_eq_getElem h]; rfl
theorem incs_bound {l pr : List Int} {m : Nat} (hl : ∀ j : Nat, 0 ≤ l.getD j 0 ∧ l.getD j 0 ≤ m) (hpr : ∀ t ∈ pr, 0 ≤ t ∧ t < (l.length : Int)) (j : Nat) : 0 ≤ (incs l pr).getD j 0 ∧ (incs l pr).getD j 0 ≤ m + pr.length := by
  have h1 := hl j
  rw [incs_get _ _ hpr]
  have h2 := count_le pr (j : Int)
  omega

set_option maxRecDepth 100000 in
set_option maxHeartbeats 4000000 in
theorem counted_main (g : G) (hG : Good g) (vo vr vc : Value) (c : List Int) (w : World) (ho : IsObjs w vo g.objs) (hr : IsVals w vr g.roots) (hc : IsInts w vc c) (hlc : c.length = g.objs.length) :
    CallsIn Fence.wide 10 Try.prog 73 #[.agg #[vo, vr], vc] w fun e w' => ∃ vl, e = .returned vl ∧ Mem w.heap.size w w' [rowI 3 vl (counted g c)] := by
  obtain ⟨ao, co, rfl, hlo⟩ := ho.slice
  obtain ⟨ar, cr, rfl, hlr⟩ := hr.slice
  obtain ⟨ac, cc, rfl, _⟩ := hc.slice
  have Ho := Lib.hid ho
  have Hr := Lib.hid hr
  have Hc := Lib.hid hc
  have Hlc := Lib.hid hlc
  have hn := hG.objs
  clear ho hr hc hlc
  refine callsIn_of_wp_marks Try.func73 rfl trivial ?_ rfl
  simp only [Try.ntmps73, List.size_toArray, List.length_cons, List.length_nil, Nat.reduceAdd, Nat.reduceSub, Array.replicate_succ, Array.replicate_zero, List.push_toArray, List.append_toArray, List.nil_append, List.cons_append]
  have hM0 := (Mem.start w).alloc #[.slice ao g.objs.length co, .slice ar g.roots.length cr] 25
  gi_wp2_with (gi_at_make; refine Mem.in_makeI elemInts rfl _ _ rfl hM0 _ _ g.objs.length rfl rfl (by go_num) (by go_num) (by omega) ?_; intro w1 hM1 hb1
               have p1 : w1.cell? ⟨w.heap.size, 1, none⟩ = some (.slice ar g.roots.length cr) := by have := hM1.cell 1 rfl 1; simpa using this
               have z1 : w.heap.size < w1.heap.size := (hM1.box 1 rfl).2.1)
  have hM1b : Mem w.heap.size w w1 [rowI 3 (.slice (some ⟨w.heap.size + 1, 0, none⟩) g.objs.length g.objs.length) (List.replicate g.objs.length 0), ebox w.heap.size #[.slice ao g.objs.length co, .slice ar g.roots.length cr] 25] := by
    simpa using hM1
  clear hM1 hb1
  have hg1 : w.heap.size + 1 < w1.heap.size := (hM1b.lt (List.mem_cons_self ..) _ rfl).2
  have hM2 := hM1b.alloc #[.slice (some ⟨w.heap.size + 1, 0, none⟩) g.objs.length g.objs.length] 39
  obtain ⟨lv, hlv⟩ : ∃ lv : Value, lv = .slice (some ⟨w.heap.size + 1, 0, none⟩) g.objs.length g.objs.length := ⟨_, rfl⟩
  refine ⟨trivial, (targets_opaque _ _ _ _ _).mono ?_⟩
  rintro e w3 ⟨Bs, rfl, hb3, hBs, hcs⟩
  have hM5 := hM2.call hb3
  rw [← hlv] at hM5
  clear hM2 hM1b hM0 p1
  gi_wp2
  refine range_slot (by omega) (gf := 114) (lb := #[.pointer (some ⟨Bs, 0, none⟩)]) rfl (enters_of Try.func114 (by kernel_rfl) rfl)
    (targets_stops _ (by omega) Bs g.roots _ w Hr.out w3 hM5.below hBs hcs) hM5.base
    (fun pre W => Mem w.heap.size w W [ebox w1.heap.size #[lv] 39, rowI 3 lv (incs (List.replicate g.objs.length 0) (pre.map (·.1))), ebox w.heap.size #[.slice ao g.objs.length co, .slice ar g.roots.length cr] 25] )
    (fun _ _ _ => False) (ownFrom_mem _ hM5.base (by intro _; repeat (first | exact calm_nil _ | refine calm_cons ?_ ?_ | exact ebox_calm _ _ _ _ | exact rowV_calm _ _ _ _ | exact rowI_calm _ _ _ _ | exact erow_calm _ _ _ _ _ _ | exact edef_calm (by first | exact Nat.le_refl _ | (simp; done) | (simp; omega) | (simp at *; omega)) | exact low_calm (by first | exact Nat.le_refl _ | (simp; done) | (simp; omega) | (simp at *; omega))))) (fun _ => ownFrom_false _) hM5 6 (fun x => .int .i64 x.1) ?assign ?body ?done ?stop
  case assign =>
    intro l x W K hK
    simp only [laid]
    gi_wp2
    exact hK
  case body =>
    rintro l pre ⟨x, hx⟩ W hsz hM hlen
    obtain ⟨pr, hpr⟩ : ∃ pr : List Int, pre.map (·.1) = pr := ⟨_, rfl⟩
    have hprl : pr.length = pre.length := by rw [← hpr, List.length_map]
    have hprm : ∀ t ∈ pr, 0 ≤ t ∧ t < ((List.replicate g.objs.length (0 : Int)).length : Int) := by
      intro t ht
      rw [← hpr] at ht
      obtain ⟨z, _, rfl⟩ := List.mem_map.1 ht
      have := hG.target (roots_all g) z.2
      simpa using this
    have hx2 := hG.target (roots_all g) hx
    obtain ⟨i, rfl⟩ : ∃ i : Nat, x = (i : Int) := ⟨x.toNat, by omega⟩
    have hr8 := hG.roots
    have hbd := incs_bound (m := 0) (fun j => by rw [replicate_getD]; split <;> omega) hprm i
    have hil : i < (incs (List.replicate g.objs.length 0) pr).length := by rw [incs_len, List.length_replicate]; omega
    have hi : i < g.objs.length := by omega
    obtain ⟨y, hy⟩ : ∃ y, (incs (List.replicate g.objs.length 0) pr).getD i 0 = y := ⟨_, rfl⟩
    have hgy := getD_rep hil
    have hset : inc1 (incs (List.replicate g.objs.length 0) pr) i = (incs (List.replicate g.objs.length 0) pr).set i (y + 1) := by unfold inc1; rw [Int.toNat_natCast, hy]
    rw [hy] at hbd hgy
    rw [hpr, hlv] at hM
    obtain ⟨q1, q2⟩ := hM.intAt 1 rfl hgy
    have q0 : W.cell? ⟨w1.heap.size, 0, none⟩ = some (.slice (some ⟨w.heap.size + 1, 0, none⟩) g.objs.length g.objs.length) := by have := hM.cell 0 rfl 0; simpa using this
    have hM3 := hM.setI 1 rfl (by rw [incs_len, List.length_replicate]) i (y + 1)
    rw [← hset, ← incs_snoc] at hM3
    have hy0 : 0 ≤ y := by omega
    have hy1 : y ≤ 1000 := by omega
    have HM3 := Lib.hid hM3
    have Hpr := Lib.hid hpr
    have hB := hM.below
    have hB3 := hM3.below
    clear hM hM3 hset hgy hy hil hbd hprm hpr hprl hx2
    simp only [laid]
    gi_wp2
    exact ⟨(KeepsOthers.setCell _ _ _).from _, below_between hB hB3 (by simp), by show Mem _ _ _ _; rw [List.map_append, Hpr.out, hlv]; exact HM3.out⟩
  case stop => rintro D c pre W hD hpre hf hK; exact hf.elim
  case done =>
    rintro D1 xs W hD1 hxs hM hK1
    rw [hxs] at hM
    have hM7 := hM.addDef' (D := D1) (by have := hM5.base; omega) hK1 (by repeat (first | exact calm_nil _ | refine calm_cons ?_ ?_ | exact ebox_calm _ _ _ _ | exact rowV_calm _ _ _ _ | exact rowI_calm _ _ _ _ | exact erow_calm _ _ _ _ _ _ | exact edef_calm (by first | exact Nat.le_refl _ | (simp; done) | (simp; omega) | (simp at *; omega)) | exact low_calm (by first | exact Nat.le_refl _ | (simp; done) | (simp; omega) | (simp at *; omega))))
    have hsz : w1.heap.size < W.heap.size := (hM.box 0 rfl).2.1
    have q0 : W.cell? ⟨w.heap.size, 0, none⟩ = some (.slice ao g.objs.length co) := by have := hM.cell 2 rfl 0; simpa using this
    have hM8 : Mem w.heap.size w W ([ebox w1.heap.size #[lv] 39, rowI 3 lv (cntAt g c 0), ebox w.heap.size #[.slice ao g.objs.length co, .slice ar g.roots.length cr] 25] ++ [D1].map edef) :=
      hM7.pick0 [1, 2, 3, 0] (by decide) rfl
    clear hM7 hM hM5 hK1 hxs
    gi_wp2
    refine loop_marks [7, 8, 9, 27, 28, 29, 30, 31, 32, 33, 34, 35, 36, 37, 38, 39, 40, 41, 42, 43, 44, 45, 46, 47] (fun m u Ds W => ∃ k : Nat, m = g.objs.length - k ∧ k ≤ g.objs.length ∧ u 27 = .int .i64 k ∧
      Mem w.heap.size w W ([ebox w1.heap.size #[lv] 39, rowI 3 lv (cntAt g c k), ebox w.heap.size #[.slice ao g.objs.length co, .slice ar g.roots.length cr] 25] ++ Ds.map edef))
      (Ds0 := [D1]) rfl (g.objs.length) ⟨0, rfl, Nat.zero_le _, rfl, hM8⟩ ?_
    rintro m u Ds W2 ⟨k, rfl, hk, hu, hM⟩
    simp only [setAll, List.foldl_cons, List.foldl_nil, List.setIfInBounds_toArray, List.set_cons_succ, List.set_cons_zero, hu]
    by_cases hlt : k < g.objs.length
    · obtain ⟨ob, hob⟩ := get_some _ _ hlt
      obtain ⟨b, off, cap2, uo, hv, hb, hn2, c1, huo⟩ := Ho.out.at hM.below hob
      cases hv
      obtain ⟨au, cu, rfl, hlu⟩ := huo.slice
      obtain ⟨y, hy⟩ := get_some c k (by have := Hlc.out; omega)
      have hkc := (List.getElem?_eq_some_iff.1 hy).1
      obtain ⟨bc, oc, cap3, hv, hbc, hnc, c2, _⟩ := Hc.out.at hM.below hy
      cases hv
      have hfa : fieldsAt g k = ob := by unfold fieldsAt; rw [Int.toNat_natCast, List.getD_eq_getElem?_getD, hob]; rfl
      have hgy : c.getD k 0 = y := by rw [List.getD_eq_getElem?_getD, hy]; rfl
      by_cases hpos : 0 < y
      · have hsucc : cntAt g c (k + 1) = incs (cntAt g c k) (targets ob) := by
          show (if 0 < c.getD k 0 then incs (cntAt g c k) (targets (fieldsAt g k)) else cntAt g c k) = _
          rw [hgy, if_pos hpos, hfa]
        have Huo := Lib.hid huo
        have HM := Lib.hid (hM.alloc_ (.cells #[.slice au ob.length cu] 94))
        have Hsucc := Lib.hid hsucc
        have Hfa := Lib.hid hfa
        clear huo hM hsucc hfa hob hy hgy
        gi_wp2_with fail
        refine ⟨trivial, (targets_opaque _ _ _ _ _).mono ?_⟩
        rintro e w4 ⟨Bs2, rfl, hb4, hBs2, hcs2⟩
        have hM9 := HM.out.call hb4
        have hDs : ∀ D ∈ Ds, D < w4.heap.size := hM9.defs_lt (fun D hD => List.mem_append_right _ (List.mem_map.2 ⟨D, hD, rfl⟩))
        have hbase := hM9.base
        gi_wp2
        refine range_slot (by omega) (gf := 114) (lb := #[.pointer (some ⟨Bs2, 0, none⟩)]) rfl (enters_of Try.func114 (by kernel_rfl) rfl)
          (targets_stops _ (by omega) Bs2 ob _ w Huo.out w4 hM9.below hBs2 hcs2) hbase
          (fun pre W => Mem w.heap.size w W ([ebox w1.heap.size #[lv] 39, rowI 3 lv (incs (cntAt g c k) (pre.map (·.1))), ebox w.heap.size #[.slice (some ⟨b, off, none⟩) g.objs.length co, .slice ar g.roots.length cr] 25] ++ Ds.map edef))
          (fun _ _ _ => False) (ownFrom_mem _ hbase (fun _ => calm_append (by repeat (first | exact calm_nil _ | refine calm_cons ?_ ?_ | exact ebox_calm _ _ _ _ | exact rowV_calm _ _ _ _ | exact rowI_calm _ _ _ _ | exact erow_calm _ _ _ _ _ _ | exact edef_calm (by first | exact Nat.le_refl _ | (simp; done) | (simp; omega) | (simp at *; omega)) | exact low_calm (by first | exact Nat.le_refl _ | (simp; done) | (simp; omega) | (simp at *; omega)))) (calm_defs _ hDs))) (fun _ => ownFrom_false _) hM9 9 (fun x => .int .i64 x.1) ?assign2 ?body2 ?done2 ?stop2
        case assign2 =>
          intro l x W K hK
          simp only [laid]
          gi_wp2
          exact hK
        case body2 =>
          rintro l pre ⟨x, hx⟩ W hsz hM hlen
          obtain ⟨pr, hpr⟩ : ∃ pr : List Int, pre.map (·.1) = pr := ⟨_, rfl⟩
          have hprl : pr.length = pre.length := by rw [← hpr, List.length_map]
          have hob2 : ∀ y ∈ targets ob, 0 ≤ y ∧ y < (g.objs.length : Int) := fun y hy => hG.target (l := ob) (fun z hz => by rw [← Hfa.out] at hz; exact fields_all g k z hz) hy
          have hprm : ∀ t ∈ pr, 0 ≤ t ∧ t < ((cntAt g c k).length : Int) := by
            intro t ht
            rw [← hpr] at ht
            obtain ⟨z, _, rfl⟩ := List.mem_map.1 ht
            rw [cntAt_len]
            exact hob2 _ z.2
          have hx2 := hob2 _ hx
          obtain ⟨i, rfl⟩ : ∃ i : Nat, x = (i : Int) := ⟨x.toNat, by omega⟩
          have hr4 := fieldsAt_len hG k
          rw [Hfa.out] at hr4
          have hbd := incs_bound (m := 104) (fun j => by have := cntAt_bound hG c k j; omega) hprm i
          have hil : i < (incs (cntAt g c k) pr).length := by rw [incs_len, cntAt_len]; omega
          have hi : i < g.objs.length := by omega
          obtain ⟨y, hy⟩ : ∃ y, (incs (cntAt g c k) pr).getD i 0 = y := ⟨_, rfl⟩
          have hgy := getD_rep hil
          have hset : inc1 (incs (cntAt g c k) pr) i = (incs (cntAt g c k) pr).set i (y + 1) := by unfold inc1; rw [Int.toNat_natCast, hy]
          rw [hy] at hbd hgy
          rw [hpr, hlv] at hM
          obtain ⟨q1, q2⟩ := hM.intAt 1 rfl hgy
          have q0 : W.cell? ⟨w1.heap.size, 0, none⟩ = some (.slice (some ⟨w.heap.size + 1, 0, none⟩) g.objs.length g.objs.length) := by have := hM.cell 0 rfl 0; simpa using this
          have hM3 := hM.setI 1 rfl (by rw [incs_len, cntAt_len]) i (y + 1)
          rw [← hset, ← incs_snoc] at hM3
          have hy0 : 0 ≤ y := by omega
          have hy1 : y ≤ 1000 := by omega
          have HM3 := Lib.hid hM3
          have Hpr := Lib.hid hpr
          have hB := hM.below
          have hB3 := hM3.below
          clear hM hM3 hset hgy hy hil hbd hprm hpr hprl hx2 hM9 hob2 hr4
          simp only [laid]
          gi_wp2
          exact ⟨(KeepsOthers.setCell _ _ _).from _, below_between hB hB3 (by simp), by show Mem _ _ _ _; rw [List.map_append, Hpr.out, hlv]; exact HM3.out⟩
        case stop2 => rintro D c pre W hD hpre hf hK; exact hf.elim
        case done2 =>
          rintro D2 xs W hD2 hxs hM hK2
          have hM10 := hM.addDef' (D := D2) (by omega) hK2 (calm_append (by repeat (first | exact calm_nil _ | refine calm_cons ?_ ?_ | exact ebox_calm _ _ _ _ | exact rowV_calm _ _ _ _ | exact rowI_calm _ _ _ _ | exact erow_calm _ _ _ _ _ _ | exact edef_calm (by first | exact Nat.le_refl _ | (simp; done) | (simp; omega) | (simp at *; omega)) | exact low_calm (by first | exact Nat.le_refl _ | (simp; done) | (simp; omega) | (simp at *; omega)))) (calm_defs _ (fun D hD => by have := hDs D hD; omega)))
          rw [hxs, ← Hsucc.out] at hM10
          have HM10 := Lib.hid hM10
          clear hM hM10 hxs hM9
          gi_wp2
          exact ⟨g.objs.length - (k + 1), D2 :: Ds, by omega, rfl, rfl, k + 1, rfl, by omega, rfl,
            Mem.pick (A := [_, _, _, _]) (T := Ds.map edef) (A' := [_, _, _, edef D2]) HM10.out [1, 2, 3, 0] (by decide) rfl⟩
      · have hsucc : cntAt g c (k + 1) = cntAt g c k := by
          show (if 0 < c.getD k 0 then incs (cntAt g c k) (targets (fieldsAt g k)) else cntAt g c k) = _
          rw [hgy, if_neg hpos]
        have HM := Lib.hid (hM.alloc_ (.cells #[.slice au ob.length cu] 94))
        have Hsucc := Lib.hid hsucc
        clear huo hM hsucc hfa hob hy hgy
        gi_wp2
        exact ⟨g.objs.length - (k + 1), by omega, Ds, rfl, k + 1, rfl, by omega, rfl, by rw [Hsucc.out, ← hlv]; exact HM.out⟩
    · obtain rfl : k = g.objs.length := by omega
      have q1 : W2.cell? ⟨w1.heap.size, 0, none⟩ = some lv := by have := hM.cell 0 rfl 0; simpa using this
      have HM := Lib.hid hM
      clear hM
      gi_wp2
      refine leaves_marks (v := lv) Ds _ (HM.out.perm List.perm_append_comm) ?_
      intro W' hM3
      refine ⟨by simp [results, Try.results73, go_sem, hlv], lv, rfl, ?_⟩
      exact hM3.pick0 [1] (by decide) rfl

theorem counted_any (g : G) (hG : Good g) (v vc : Value) (c : List Int) (w : World) (hg : IsGraph w v g) (hc : IsInts w vc c) (hlc : c.length = g.objs.length) :
    Calls Try.prog 73 #[v, vc] w fun e w' => ∃ vl, e = .returned vl ∧ Mem w.heap.size w w' [rowI 3 vl (counted g c)] := by
  obtain ⟨vo, vr, rfl, ho, hr⟩ := hg
  exact callsIn_wide.1 (counted_main g hG vo vr vc c w ho hr hc hlc)
end Go.Proofs.Ytmmcjjklmcfegaa

/- slices.Repeat of one int, walked; copies within a row of the call's own. -/
namespace Go.Proofs.Ytmmcjjklmcfegaa
open Go.RowKit Go.Shelf

section
variable {P : Program} {B : Nat} {w0 w : World} {L : List Ent} {t e : TypeId} {z : Value}
/-- copy into a row of ints of the call's own. -/
theorem Mem.run_copyI (T : Elem P t e 1 8 z) (ty : TypeId) (h : Mem B w0 w L) (k : Nat) {g n cap : Nat} {l : List Int} (hk : L[k]? = some (rowI e (.slice (some ⟨g, 0, none⟩) n cap) l))
    (off dLen dCap : Nat) (a : Addr) (sLen sCap : Nat) (cs : List Int) (hn : cs.length = Nat.min sLen dLen) (hsrc : ∀ (j : Nat) (v : Int), cs[j]? = some v → w.cell? (a.add j) = some (.int .i64 v)) (hfit : off + cs.length ≤ l.length) :
    ∃ w', (Builtin.copy_ #[t, t] ty #[.slice (some ⟨g, off, none⟩) dLen dCap, .slice (some a) sLen sCap]).run P w = .ok (goInt cs.length) w' ∧
      Mem B w0 w' (L.set k (rowI e (.slice (some ⟨g, 0, none⟩) n cap) (l.take off ++ cs ++ l.drop (off + cs.length)))) ∧ w'.heap.size = w.heap.size := by
  obtain ⟨i, hi, hz, hs, hb⟩ := T.info
  have hr := h.ownI k hk
  rcases hr.2 with ⟨h0, _⟩ | ⟨g', cap', cur, hv, hB, hg, hnc, hcm, hcs, htk⟩
  · cases h0
  · cases hv
    rw [Nat.mul_one] at htk hcs
    have hlc : l.length ≤ cur.size := by omega
    have hrun := run_copy_row (P := P) w t t ty e g off dLen dCap a sLen sCap cur e (cs.map (.int .i64)) T.under (by rw [hi]; simp [hs]) hg (by simpa using hn)
      (by intro j v hj; rw [List.getElem?_map] at hj; cases hc : cs[j]? with
          | none => rw [hc] at hj; cases hj
          | some x => rw [hc] at hj; cases hj; exact hsrc j x hc) (by simp; omega) (by intro v hv; obtain ⟨x, _, rfl⟩ := List.mem_map.1 hv; rfl)
    rw [List.length_map] at hrun
    have hlen : (l.take off ++ cs ++ l.drop (off + cs.length)).length = l.length := by simp; omega
    have hcur : cur.toList = l.map (.int .i64) ++ cur.toList.drop l.length := by rw [← htk, List.take_append_drop]
    refine ⟨_, hrun, h.turn k hk (x' := rowI e (.slice (some ⟨g, 0, none⟩) l.length cap) (l.take off ++ cs ++ l.drop (off + cs.length)))
      ⟨rfl, rfl, rfl, by simp [World.setRow], fun b hb hne => setRow_other _ _ _ _ (fun e => hne (by rw [e]; rfl))⟩ (row_ok.2 ⟨by simp, .inr ⟨g, cap, _, by rw [hlen], hB, setRow_heap _ _ _ _ _ _ hg, by rw [hlen]; exact hnc, hcm, ?_, ?_⟩⟩) (fun b hb => .inl hb), by simp [World.setRow]⟩
    · simp; omega
    · have e1 : cur.toList.take off = (l.take off).map (.int .i64) := by
        rw [hcur, List.take_append_of_le_length (by simp; omega), List.map_take]
      have e2 : cur.toList.drop (off + cs.length) = (l.drop (off + cs.length)).map (.int .i64) ++ cur.toList.drop l.length := by
        conv => lhs; rw [hcur]
        rw [List.drop_append_of_le_length (by simp; omega), List.map_drop]
      rw [hlen, Nat.mul_one, List.toList_toArray, e1, e2, ← List.append_assoc, ← List.map_append, ← List.map_append]
      rw [List.take_append_of_le_length (by simp; omega), List.take_of_length_le (by simp; omega)]
theorem Mem.wp_copyI (T : Elem P t e 1 8 z) {ops : Array Oper} {rest : List Oper} {o : Oper} {a : Act} {Q : Exit → Act → World → Prop} (hgd : o.guard = none) (d s : Operand)
    (ho : o.op = .call { callee := .builtin .copy, args := #[d, s], argTypes := #[t, t] }) (h : Mem B w0 w L) (k : Nat) {g n cap : Nat} {l : List Int} (hk : L[k]? = some (rowI e (.slice (some ⟨g, 0, none⟩) n cap) l))
    (off dLen dCap : Nat) (ad : Addr) (sLen sCap : Nat) (hd : a.eval d = .slice (some ⟨g, off, none⟩) dLen dCap) (hs : a.eval s = .slice (some ad) sLen sCap) (cs : List Int) (c : Nat) (hc : cs.length = c) (hn : c = Nat.min sLen dLen)
    (hsrc : ∀ (j : Nat) (v : Int), cs[j]? = some v → w.cell? (ad.add j) = some (.int .i64 v)) (hfit : off + c ≤ l.length)
    (hh : ∀ w', Mem B w0 w' (L.set k (rowI e (.slice (some ⟨g, 0, none⟩) n cap) (l.take off ++ cs ++ l.drop (off + c)))) → w'.heap.size = w.heap.size → wpList P ops Q rest (a.put o.dst (goInt c)) w') : wpList P ops Q (o :: rest) a w := by
  subst hc
  refine wpList_plain hgd fun K hK => ?_
  obtain ⟨w', hr, h2, h3⟩ := h.run_copyI T o.type k hk off dLen dCap ad sLen sCap cs hn hsrc hfit
  unfold Oper.wp
  simp [execOp, ho, resolve, invoke, builtin, hd, hs, hr, Result.andThen]
  exact hK _ _ (hh w' h2 h3)
theorem Mem.step_copyI (T : Elem P t e 1 8 z) {ops : Array Oper} {o : Oper} {a : Act} {K : Act → World → Prop} {Q : Exit → Act → World → Prop} {E : Prop} (hgd : o.guard = none) (d s : Operand)
    (ho : o.op = .call { callee := .builtin .copy, args := #[d, s], argTypes := #[t, t] }) (h : Mem B w0 w L) (k : Nat) {g n cap : Nat} {l : List Int} (hk : L[k]? = some (rowI e (.slice (some ⟨g, 0, none⟩) n cap) l))
    (off dLen dCap : Nat) (ad : Addr) (sLen sCap : Nat) (hd : a.eval d = .slice (some ⟨g, off, none⟩) dLen dCap) (hs : a.eval s = .slice (some ad) sLen sCap) (cs : List Int) (c : Nat) (hc : cs.length = c) (hn : c = Nat.min sLen dLen)
    (hsrc : ∀ (j : Nat) (v : Int), cs[j]? = some v → w.cell? (ad.add j) = some (.int .i64 v)) (hfit : off + c ≤ l.length)
    (hh : ∀ w', Mem B w0 w' (L.set k (rowI e (.slice (some ⟨g, 0, none⟩) n cap) (l.take off ++ cs ++ l.drop (off + c)))) → w'.heap.size = w.heap.size → K (a.put o.dst (goInt c)) w') :
    if Region.wanted o (yielded ops a.tmps) = true then Oper.wp P o a w K Q else E := by
  have hw : Region.wanted o (yielded ops a.tmps) = true := by simp [Region.wanted, hgd]
  rw [if_pos hw]
  subst hc
  obtain ⟨w', hr, h2, h3⟩ := h.run_copyI T o.type k hk off dLen dCap ad sLen sCap cs hn hsrc hfit
  unfold Oper.wp
  simp [execOp, ho, resolve, invoke, builtin, hd, hs, hr, Result.andThen]
  exact hh w' h2 h3
end

theorem rep_step (x : Int) (k c n : Nat) (h2 : k + c ≤ n) : (List.replicate k x ++ List.replicate (n - k) 0).take k ++ List.replicate c x ++ (List.replicate k x ++ List.replicate (n - k) 0).drop (k + c) = List.replicate (k + c) x ++ List.replicate (n - (k + c)) 0 := by
  rw [List.take_append_of_le_length (by simp), List.take_of_length_le (by simp), List.drop_append, List.drop_of_length_le (by simp), List.nil_append, List.length_replicate, List.drop_replicate, List.replicate_append_replicate]
  congr 2; omega

theorem mul_one_n (n : Nat) (hn : n ≤ 1000) (w : World) : Calls Try.prog 80 #[.int .u64 1, .int .u64 n] w fun e w' => e = .returned (.tuple #[.int .u64 0, .int .u64 n]) ∧ w = w' := by
  refine (Try.bits_Mul 1 n (by omega) (by omega) w).mono ?_
  rintro e w' ⟨rfl, rfl⟩
  refine ⟨?_, rfl⟩
  rw [show 1 * n / 18446744073709551616 = 0 by omega, show 1 * n % 18446744073709551616 = n by omega]
  rfl

set_option maxRecDepth 100000 in
set_option maxHeartbeats 1000000 in
theorem repeat_any (v : Value) (x : Int) (n : Nat) (hn : n ≤ 1000) (w : World) (hv : IsInts w v [x]) :
    Calls Try.prog 72 #[v, .int .i64 n] w fun e w' => ∃ v', e = .returned v' ∧ Mem w.heap.size w w' [rowI 3 v' (List.replicate n x)] := by
  obtain ⟨b, off, cap, rfl, hb, _, c1, _⟩ := hv.at (Below.refl _ _) (k := 0) (x := x) rfl
  simp only [List.length_cons, List.length_nil, Nat.zero_add]
  rw [Nat.add_zero] at c1
  have hM0 := Mem.start w
  have hdn : decide ((n : Int) < 0) = false := by simp
  have hdb : decide ((9223372036854775807 : Int) < n) = false := by simp; omega
  go_enter Try.func72, Try.ntmps72
  go_wp2_with fail
  refine (mul_one_n n hn _).mono ?_
  rintro e w1 ⟨rfl, rfl⟩
  have hsl : IsInts w (.slice (some ⟨b, off, none⟩) 1 cap) [x] := hv
  obtain ⟨k0, hk0⟩ : ∃ k0, min 1 n = k0 := ⟨_, rfl⟩
  have hk1 : k0 ≤ n := by omega
  have hk2 : n = 0 ∨ 1 ≤ k0 := by omega
  have hk3 : k0 ≤ 1 := by omega
  have Hk0 := Lib.hid hk0
  clear hk0
  go_wp2_with (first
    | (at_make; refine Mem.wp_makeI elemInts rfl _ _ rfl hM0 _ _ n rfl rfl (by go_num) (by go_num) hn ?_; intro w1 hM1 hb1
       have d1 : w1.cell? ⟨b, off, none⟩ = some (.int .i64 x) := (hb1.cell (p := ⟨b, off, none⟩) hb).trans c1)
    | (with_reducible refine Mem.wp_copyI elemInts rfl (.tmp 31) (.tmp 32) rfl hM1 0 rfl 0 n n ⟨b, off, none⟩ 1 cap rfl rfl (List.replicate k0 x) k0 ?_ ?_ ?_ ?_ ?_))
  · exact List.length_replicate
  · exact Hk0.out.symm
  · intro j v hj
    have hjl := (List.getElem?_eq_some_iff.1 hj).1
    simp at hjl
    obtain rfl : j = 0 := by omega
    rw [List.getElem?_replicate, if_pos hjl] at hj
    cases hj
    simpa [Addr.add] using d1
  · simp; omega
  intro w2 hM2 hs2
  have hM3 : Mem w.heap.size w w2 [rowI 3 (.slice (some ⟨w.heap.size, 0, none⟩) n n) (List.replicate k0 x ++ List.replicate (n - k0) 0)] := hM2.cast (by simp)
  have HM3 := Lib.hid hM3
  clear hM2 hM3 hM1 d1 hb1
  go_wp2
  go_loopw [8] (fun s wr => ∃ k : Nat, k ≤ n ∧ s = .int .i64 k ∧ (n = 0 ∨ 1 ≤ k) ∧ Mem w.heap.size w wr [rowI 3 (.slice (some ⟨w.heap.size, 0, none⟩) n n) (List.replicate k x ++ List.replicate (n - k) 0)]) (fun s _ => n - (intOf s).toNat)
  case atStart => exact ⟨k0, hk1, rfl, hk2, HM3.out⟩
  case round =>
    clear HM3
    obtain ⟨k, hk, rfl, hk4, hM⟩ := hrel
    by_cases hlt : k < n
    · obtain ⟨c, hc⟩ : ∃ c, min k (n - k) = c := ⟨_, rfl⟩
      have hc1 : 1 ≤ c := by omega
      have hc2 : c ≤ k := by omega
      have hc3 : k + c ≤ n := by omega
      have hcsrc : ∀ (j : Nat) (v : Int), (List.replicate c x)[j]? = some v → wr.drew.cell? ((⟨w.heap.size, 0, none⟩ : Addr).add j) = some (.int .i64 v) := by
        intro j v hj
        have hjl := (List.getElem?_eq_some_iff.1 hj).1
        rw [List.length_replicate] at hjl
        rw [List.getElem?_replicate, if_pos hjl] at hj
        cases hj
        have h1 := hM.intAt 0 rfl (j := j) (x := x) (by rw [List.getElem?_append_left (by simp; omega), List.getElem?_replicate, if_pos (by omega)])
        rcases Nat.eq_zero_or_pos j with rfl | hj0
        · simpa [Addr.add] using h1.1
        · have hj1 : ¬ j = 0 := by omega
          simpa [Addr.add, hj1] using h1.1
      have HM := Lib.hid hM.drew
      have Hc := Lib.hid hc
      have Hsrc := Lib.hid hcsrc
      have hklen : k + c ≤ (List.replicate k x ++ List.replicate (n - k) (0 : Int)).length := by simp; omega
      have Hklen := Lib.hid hklen
      clear hdn hdb
      have hnk : ¬ n = k := by omega
      have hk0' : (0 : Int) ≤ (k : Int) := by omega
      have hkn' : (k : Int) ≤ (n : Int) := by omega
      have hsum : IntKind.i64.wrap ((k : Int) + (c : Int)) = (k : Int) + c := IntWalk.i64_in _ (by omega)
      clear hc hM hk4 hcsrc hklen
      go_wp2
      go_region_held3 (fun _ => True) (trivial) ((refine Mem.step_copyI elemInts rfl (.tmp 41) (.tmp 44) rfl HM.out 0 rfl k (n - k) (n - k) ⟨w.heap.size, 0, none⟩ k n (by rfl) (by rfl) (List.replicate c x) c List.length_replicate Hc.out.symm Hsrc.out Hklen.out ?_; intro w2 hM2 hs2))
      have hM3 : Mem w.heap.size w w2 [rowI 3 (.slice (some ⟨w.heap.size, 0, none⟩) n n) (List.replicate (k + c) x ++ List.replicate (n - (k + c)) 0)] := hM2.cast (by rw [← rep_step x k c n hc3]; rfl)
      have HM3 := Lib.hid hM3
      clear hM2 hM3 hsum
      go_wp2
      go_roundw
      case rel => exact ⟨k + c, by omega, by go_num, by omega, HM3.out⟩
      case measure => simp [intOf]; omega
    · obtain rfl : k = n := by omega
      go_wp2
      go_ret
      exact ⟨_, rfl, hM.cast (by simp)⟩
end Go.Proofs.Ytmmcjjklmcfegaa

/- dual.settle, Least, Greatest; slices.Equal on ints. -/
namespace Go.Proofs.Ytmmcjjklmcfegaa
open Go.RowKit Go.Shelf

theorem eqI_any (u v : Value) (l m : List Int) (w : World) (hu : IsInts w u l) (hv : IsInts w v m) :
    Calls Try.prog 74 #[u, v] w fun e w' => e = .returned (.bool (decide (l = m))) ∧ ∃ q, w' = w.drewN q := by
  obtain ⟨a, cap, rfl, hl1⟩ := hu.slice
  obtain ⟨a', cap', rfl, hl2⟩ := hv.slice
  by_cases hlen : l.length = m.length
  · by_cases h0 : l.length = 0
    · have e1 : l = [] := List.eq_nil_of_length_eq_zero h0
      have e2 : m = [] := List.eq_nil_of_length_eq_zero (by omega)
      subst e1 e2
      refine (Try.slices_Equal_int_empty a a' cap 0 cap' w (by omega)).mono ?_
      rintro e w' ⟨rfl, rfl⟩
      exact ⟨by simp, 0, rfl⟩
    · obtain ⟨x, hx⟩ := get_some l 0 (by omega)
      obtain ⟨y, hy⟩ := get_some m 0 (by omega)
      obtain ⟨b, off, c1, hv1, _⟩ := hu.at (Below.refl _ _) hx
      obtain ⟨b', off', c1', hv1', _⟩ := hv.at (Below.refl _ _) hy
      cases hv1
      cases hv1'
      refine (Try.slices_Equal_int b off l.length cap b' off' m.length cap' l m w (Nat.le_refl _) (Nat.le_refl _) hl1 hl2 ?_ ?_).mono ?_
      · intro j hj
        obtain ⟨b2, off2, c2, hv2, _, _, h2, _⟩ := hu.at (Below.refl _ _) (List.getElem?_eq_getElem hj)
        cases hv2
        rw [h2, List.getD_eq_getElem?_getD, List.getElem?_eq_getElem hj]; rfl
      · intro j hj
        obtain ⟨b2, off2, c2, hv2, _, _, h2, _⟩ := hv.at (Below.refl _ _) (List.getElem?_eq_getElem hj)
        cases hv2
        rw [h2, List.getD_eq_getElem?_getD, List.getElem?_eq_getElem hj]; rfl
      · rintro e w' ⟨rfl, q, rfl⟩
        rw [List.take_length, List.take_length]
        exact ⟨by congr 2; rw [Bool.eq_iff_iff]; simp, q, rfl⟩
  · refine (Try.slices_Equal_int_lens a a' _ cap _ cap' w hlen).mono ?_
    rintro e w' ⟨rfl, rfl⟩
    have hne : l ≠ m := fun e => hlen (by rw [e])
    exact ⟨by simp [hne], 0, rfl⟩

theorem isInts_num {l : List Int} (hl : l.length ≤ 24) (hb : ∀ j : Nat, 0 ≤ l.getD j 0 ∧ l.getD j 0 ≤ 104) {w : World} {B : Nat} {w0 : World} {L : List Ent} (k : Nat) {v : Value} (hM : Mem B w0 w L) (hk : L[k]? = some (rowI 3 v l)) : IsInts w v l := by
  refine isInts_of_own (hM.ownI k hk) (by omega) ?_
  intro x hx
  obtain ⟨j, hj⟩ := List.getElem?_of_mem hx
  have := hb j
  rw [List.getD_eq_getElem?_getD, hj] at this
  simp only [Option.getD_some] at this
  exact ⟨by omega, by omega⟩

set_option maxRecDepth 100000 in
set_option maxHeartbeats 1000000 in
theorem settle_any (g : G) (hG : Good g) (first : Int) (hf : i64ok first) (I : List Int → Prop) (m : List Int → Nat) (H : Goes g first I m) (v : Value) (w : World) (hg : IsGraph w v g) :
    Calls Try.prog 47 #[v, .int .i64 first] w fun e w' => ∃ vl l, e = .returned (.tuple #[vl, .int .i64 0]) ∧ I l ∧ Sol g l ∧ Mem w.heap.size w w' [rowI 3 vl l] := by
  have Hg := Lib.hid hg
  obtain ⟨ao, co, ar, cr, rfl, hlo, hlr⟩ := hg.shape
  have hn := hG.objs
  have HH := Lib.hid H
  clear hg H
  have hM0 := (Mem.start w).alloc #[.slice ao g.objs.length co, .slice ar g.roots.length cr] 25
  go_enter Try.func47, Try.ntmps47
  go_wp2_with fail
  refine (gcheck_yes _ g _ (Hg.out.later hM0.below) hG).mono ?_
  rintro e w1 ⟨rfl, hb⟩
  have hM1 := hM0.call hb
  obtain ⟨p0, p1⟩ := hM1.cells2 0 rfl
  have z1 : w.heap.size < w1.heap.size := (hM1.box 0 rfl).2.1
  have hM2 := hM1.alloc_ (.cells #[.int .i64 first] 3)
  go_wp2_with fail
  refine (repeat_any _ first g.objs.length (by omega) _ (isInts_one w1 first _ hf)).mono ?_
  rintro e w3 ⟨vl, rfl, hM3⟩
  have hM4 := hM2.callMem hM3
  have HM4 := Lib.hid hM4
  clear hM0 hM1 hM2 hM3 hM4 p0 p1
  go_wp2
  go_loopg [7] (m (List.replicate g.objs.length first)) (fun gk v wr => ∃ l, gk = m l ∧ I l ∧ Mem w.heap.size w wr [rowI 3 v l, ebox w.heap.size #[.slice ao g.objs.length co, .slice ar g.roots.length cr] 25])
  case atStart => exact ⟨_, rfl, HH.out.start, HM4.out⟩
  case round =>
    clear HM4
    obtain ⟨l, hgk, hI, hM⟩ := hrel
    have hll := HH.out.len l hI
    have hlb := HH.out.ok l hI
    have hIs := isInts_num (by omega) hlb 0 hM rfl
    obtain ⟨q0, q1⟩ := hM.cells2 1 rfl
    have HM := Lib.hid hM
    have HI := Lib.hid hI
    have Hgk := Lib.hid hgk
    have Hll := Lib.hid hll
    have Hlb := Lib.hid hlb
    obtain ⟨al, cl, rfl, _⟩ := hIs.slice
    have HIs := Lib.hid hIs
    clear hM hI hgk hll hlb hIs
    go_wp2_with fail
    refine (counted_any g hG _ _ l _ (Hg.out.later HM.out.below) HIs.out Hll.out).mono ?_
    rintro e w4 ⟨vn, rfl, hM5⟩
    have hM6 := HM.out.callMem hM5
    have hIn := isInts_num (by rw [counted_len]; exact hn) (counted_bound hG l) 0 hM6 rfl
    have hIl := HIs.out.later hM5.below
    obtain ⟨an, cn, rfl, _⟩ := hIn.slice
    have HM6 := Lib.hid hM6
    have HIn := Lib.hid hIn
    have HIl := Lib.hid hIl
    clear hM5 hM6 hIn hIl
    obtain ⟨b, hb2⟩ : ∃ b, decide (counted g l = l) = b := ⟨_, rfl⟩
    obtain ⟨l2, hl2⟩ : ∃ l2, counted g l = l2 := ⟨_, rfl⟩
    rw [hl2] at HM6 HIn hb2
    have Hb2 := Lib.hid hb2
    have Hl2 := Lib.hid hl2
    rw [hl2]
    clear hb2 hl2
    go_wp2_with fail
    refine (eqI_any _ _ l2 l _ HIn.out HIl.out).mono ?_
    rintro e w5 ⟨rfl, q, rfl⟩
    rw [Hb2.out]
    cases b
    · have hne : l2 ≠ l := by have := Hb2.out; simpa using this
      have hst := HH.out.step l HI.out (by rw [Hl2.out]; exact hne)
      rw [Hl2.out] at hst
      have Hst := Lib.hid hst
      clear hne hst
      go_wp2
      go_roundg (m l2)
      case rel => exact ⟨l2, rfl, Hst.out.1, (HM6.out.drewN q).pick0 [0, 2] (by decide) rfl⟩
      case measure => have := Hst.out.2; have := Hgk.out; omega
    · have he : l2 = l := by have := Hb2.out; simpa using this
      have He : Hid (Sol g l) := Lib.hid (by unfold Sol; rw [Hl2.out, he])
      clear he
      go_wp2
      refine bodyPost_ret (v := .tuple #[.slice al l.length cl, .int .i64 0]) (by simp [results, Try.results47, go_sem]) rfl ⟨_, l, rfl, HI.out, He.out, (HM6.out.drewN q).pick0 [1] (by decide) rfl⟩

def IsLeast (g : G) (l : List Int) : Prop := l.length = g.objs.length ∧ (∀ j : Nat, 0 ≤ l.getD j 0 ∧ l.getD j 0 ≤ 104) ∧ Pos l (counted g l) ∧ ∀ c, Sol g c → Pos l c
def IsGreatest (g : G) (l : List Int) : Prop := l.length = g.objs.length ∧ (∀ j : Nat, 0 ≤ l.getD j 0 ∧ l.getD j 0 ≤ 104) ∧ Pos (counted g l) l ∧ ∀ c, Sol g c → Pos c l

theorem greatest_any (g : G) (hG : Good g) (v : Value) (w : World) (hg : IsGraph w v g) :
    Calls Try.prog 30 #[v] w fun e w' => ∃ vl l, e = .returned (.tuple #[vl, .int .i64 0]) ∧ IsGreatest g l ∧ Sol g l ∧ Mem w.heap.size w w' [rowI 3 vl l] := by
  have Hg := Lib.hid hg
  obtain ⟨ao, co, ar, cr, rfl, hlo, hlr⟩ := hg.shape
  have hM0 := (Mem.start w).alloc #[.slice ao g.objs.length co, .slice ar g.roots.length cr] 25
  clear hg
  go_enter Try.func30, Try.ntmps30
  go_wp2_with fail
  refine (settle_any g hG 1 ⟨by omega, by omega⟩ _ _ (goes_greatest hG) _ _ (Hg.out.later hM0.below)).mono ?_
  rintro e w1 ⟨vl, l, rfl, hI, hS, hM⟩
  have HI : Hid (IsGreatest g l) := Lib.hid hI
  have HS := Lib.hid hS
  have HM := Lib.hid (hM0.callMem hM)
  obtain ⟨al, nl, cl, rfl⟩ := hM.isSlice 0 rfl
  clear hI hS hM
  go_wp2
  refine bodyPost_ret (v := .tuple #[.slice al nl cl, .int .i64 0]) (by simp [results, Try.results30, go_sem]) rfl ⟨_, l, rfl, HI.out, HS.out, HM.out.pick0 [0] (by decide) rfl⟩
end Go.Proofs.Ytmmcjjklmcfegaa
