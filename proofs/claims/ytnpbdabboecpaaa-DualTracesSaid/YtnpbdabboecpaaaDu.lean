/- Counts that solve a graph: least, greatest. Plain. -/
import Derived.Test.YtnpbdabboecpaaaF2
import Derived.Test.YtnpbdabboecpaaaFl
namespace Go.Proofs.Ytnpbdabboecpaaa

def inc1 (l : List Int) (j : Int) : List Int := l.set j.toNat (l.getD j.toNat 0 + 1)
def incs (l : List Int) (ts : List Int) : List Int := ts.foldl inc1 l
def cnt0 (g : G) : List Int := incs (List.replicate g.objs.length 0) (targets g.roots)
def cntAt (g : G) (c : List Int) : Nat → List Int
  | 0 => cnt0 g
  | k + 1 => if 0 < c.getD k 0 then incs (cntAt g c k) (targets (fieldsAt g k)) else cntAt g c k
def counted (g : G) (c : List Int) : List Int := cntAt g c g.objs.length

theorem inc1_len (l : List Int) (j : Int) : (inc1 l j).length = l.length := by simp [inc1]
theorem incs_len : ∀ (ts l : List Int), (incs l ts).length = l.length
  | [], _ => rfl
  | t :: ts, l => by show (incs (inc1 l t) ts).length = _; rw [incs_len ts, inc1_len]
theorem incs_snoc (l ts : List Int) (t : Int) : incs l (ts ++ [t]) = inc1 (incs l ts) t := by simp [incs]
theorem cntAt_len (g : G) (c : List Int) : ∀ k, (cntAt g c k).length = g.objs.length
  | 0 => by simp [cntAt, cnt0, incs_len]
  | k + 1 => by
    unfold cntAt
    split
    · rw [incs_len, cntAt_len g c k]
    · exact cntAt_len g c k
theorem counted_len (g : G) (c : List Int) : (counted g c).length = g.objs.length := cntAt_len g c _

theorem inc1_get {l : List Int} {t : Int} (ht : 0 ≤ t ∧ t < l.length) (j : Nat) : (inc1 l t).getD j 0 = l.getD j 0 + if t = (j : Int) then 1 else 0 := by
  unfold inc1
  rw [getD_set (by omega)]
  by_cases h : t = (j : Int)
  · subst h; simp
  · rw [if_neg h, if_neg (by omega)]; omega
theorem incs_get : ∀ (ts l : List Int), (∀ t ∈ ts, 0 ≤ t ∧ t < (l.length : Int)) → ∀ j : Nat, (incs l ts).getD j 0 = l.getD j 0 + (ts.count (j : Int) : Int)
  | [], l, _, j => by simp [incs]
  | t :: ts, l, h, j => by
    show (incs (inc1 l t) ts).getD j 0 = _
    rw [incs_get ts (inc1 l t) (by intro x hx; rw [inc1_len]; exact h x (by simp [hx])) j, inc1_get (h t (by simp)), List.count_cons]
    by_cases e : t = (j : Int)
    · simp [e]; omega
    · have : (t == (j : Int)) = false := by simpa using e
      simp [e, this]
theorem cnt0_get {g : G} (hG : Good g) (j : Nat) : (cnt0 g).getD j 0 = ((targets g.roots).count (j : Int) : Int) := by
  unfold cnt0
  rw [incs_get _ _ (by intro t ht; have := hG.target (roots_all g) ht; simpa using this)]
  rw [List.getD_eq_getElem?_getD, List.getElem?_replicate]
  split <;> simp
theorem cntAt_get {g : G} (hG : Good g) (c : List Int) (k : Nat) (j : Nat) : (cntAt g c (k + 1)).getD j 0 = (cntAt g c k).getD j 0 + if 0 < c.getD k 0 then ((targets (fieldsAt g k)).count (j : Int) : Int) else 0 := by
  show (if 0 < c.getD k 0 then incs (cntAt g c k) (targets (fieldsAt g k)) else cntAt g c k).getD j 0 = _
  split
  · rw [incs_get _ _ (by intro t ht; rw [cntAt_len]; exact hG.target (fields_all g k) ht)]
  · simp
/-- What is positive in the one is positive in the other. -/
def Pos (c d : List Int) : Prop := ∀ i : Nat, 0 < c.getD i 0 → 0 < d.getD i 0
theorem cntAt_mono {g : G} (hG : Good g) {c d : List Int} (h : Pos c d) : ∀ (k j : Nat), (cntAt g c k).getD j 0 ≤ (cntAt g d k).getD j 0
  | 0, _ => Int.le_refl _
  | k + 1, j => by
    rw [cntAt_get hG, cntAt_get hG]
    have := cntAt_mono hG h k j
    by_cases hc : 0 < c.getD k 0
    · rw [if_pos hc, if_pos (h k hc)]; omega
    · rw [if_neg hc]
      split <;> omega
theorem counted_mono {g : G} (hG : Good g) {c d : List Int} (h : Pos c d) (j : Nat) : (counted g c).getD j 0 ≤ (counted g d).getD j 0 := cntAt_mono hG h _ j
theorem ext_getD {c d : List Int} (hl : c.length = d.length) (h : ∀ j : Nat, c.getD j 0 = d.getD j 0) : c = d := by
  apply List.ext_getElem hl
  intro i h1 h2
  have := h i
  rw [List.getD_eq_getElem?_getD, List.getD_eq_getElem?_getD, List.getElem?_eq_getElem h1, List.getElem?_eq_getElem h2] at this
  exact this
theorem counted_pos {g : G} (hG : Good g) {c d : List Int} (h : Pos c d) (h' : Pos d c) : counted g c = counted g d :=
  ext_getD (by rw [counted_len, counted_len]) (fun j => by have := counted_mono hG h j; have := counted_mono hG h' j; omega)
theorem count_le (l : List Int) (x : Int) : l.count x ≤ l.length := List.count_le_length
theorem targets_len (l : List V) : (targets l).length ≤ l.length := by unfold targets; rw [List.length_map]; exact List.length_filter_le _ _
theorem cntAt_bound {g : G} (hG : Good g) (c : List Int) : ∀ (k j : Nat), 0 ≤ (cntAt g c k).getD j 0 ∧ (cntAt g c k).getD j 0 ≤ 8 + 4 * k
  | 0, j => by
    show 0 ≤ (cnt0 g).getD j 0 ∧ (cnt0 g).getD j 0 ≤ _
    rw [cnt0_get hG]
    have h1 := count_le (targets g.roots) (j : Int)
    have h2 := targets_len g.roots
    have h3 := hG.roots
    omega
  | k + 1, j => by
    rw [cntAt_get hG]
    have ih := cntAt_bound hG c k j
    have h1 := count_le (targets (fieldsAt g k)) (j : Int)
    have h2 := targets_len (fieldsAt g k)
    have h3 := fieldsAt_len hG k
    split <;> omega
theorem counted_bound {g : G} (hG : Good g) (c : List Int) (j : Nat) : 0 ≤ (counted g c).getD j 0 ∧ (counted g c).getD j 0 ≤ 104 := by
  have := cntAt_bound hG c g.objs.length j
  have := hG.objs
  unfold counted
  omega

/-- How many are positive. -/
def npos (n : Nat) (c : List Int) : Nat := (List.range n).countP fun i => decide (0 < c.getD i 0)
theorem npos_le (n : Nat) (c : List Int) : npos n c ≤ n := by have := List.countP_le_length (p := fun i => decide (0 < c.getD i 0)) (l := List.range n); simpa [npos] using this
theorem npos_mono {c d : List Int} (h : Pos c d) (n : Nat) : npos n c ≤ npos n d := by
  unfold npos
  exact List.countP_mono_left (fun i _ hi => by simp only [decide_eq_true_eq] at hi ⊢; exact h i hi)
theorem npos_lt {c d : List Int} {n : Nat} (h : Pos c d) (hn : d.length = n) (hne : ¬ Pos d c) : npos n c < npos n d := by
  obtain ⟨i, h1, h2⟩ : ∃ i : Nat, 0 < d.getD i 0 ∧ ¬ 0 < c.getD i 0 := by
    rcases Classical.em (∃ i : Nat, 0 < d.getD i 0 ∧ ¬ 0 < c.getD i 0) with h | h
    · exact h
    · exact absurd (fun i hi => Classical.byContradiction fun h' => h ⟨i, hi, h'⟩) hne
  have hi : i < n := by
    rcases Nat.lt_or_ge i n with h | h
    · exact h
    · rw [List.getD_eq_getElem?_getD, List.getElem?_eq_none (by omega)] at h1; simp at h1
  obtain ⟨a, b, hab⟩ := List.append_of_mem (List.mem_range.2 hi)
  unfold npos
  rw [hab, List.countP_append, List.countP_append, List.countP_cons, List.countP_cons]
  have ha : a.countP (fun i => decide (0 < c.getD i 0)) ≤ a.countP (fun i => decide (0 < d.getD i 0)) := List.countP_mono_left (fun i _ hi => by simp only [decide_eq_true_eq] at hi ⊢; exact h i hi)
  have hb : b.countP (fun i => decide (0 < c.getD i 0)) ≤ b.countP (fun i => decide (0 < d.getD i 0)) := List.countP_mono_left (fun i _ hi => by simp only [decide_eq_true_eq] at hi ⊢; exact h i hi)
  simp only [decide_eq_true_eq, h1, h2, if_true, if_false]
  omega

/-- How a search for numbers that solve goes on. -/
structure Goes (g : G) (first : Int) (I : List Int → Prop) (m : List Int → Nat) : Prop where
  start : I (List.replicate g.objs.length first)
  len : ∀ l, I l → l.length = g.objs.length
  ok : ∀ l, I l → ∀ j : Nat, 0 ≤ l.getD j 0 ∧ l.getD j 0 ≤ 104
  step : ∀ l, I l → counted g l ≠ l → I (counted g l) ∧ m (counted g l) < m l
theorem pos_same {l : List Int} : Pos l l := fun _ h => h
theorem replicate_getD (n : Nat) (x : Int) (j : Nat) : (List.replicate n x).getD j 0 = if j < n then x else 0 := by
  rw [List.getD_eq_getElem?_getD, List.getElem?_replicate]; split <;> rfl
def Sol (g : G) (c : List Int) : Prop := counted g c = c
theorem goes_least {g : G} (hG : Good g) : Goes g 0 (fun l => l.length = g.objs.length ∧ (∀ j : Nat, 0 ≤ l.getD j 0 ∧ l.getD j 0 ≤ 104) ∧ Pos l (counted g l) ∧ ∀ c, Sol g c → Pos l c)
    (fun l => 2 * (g.objs.length - npos g.objs.length l) + if counted g l = l then 0 else 1) := by
  refine ⟨⟨by simp, ?_, ?_, ?_⟩, fun l h => h.1, fun l h => h.2.1, ?_⟩
  · intro j; rw [replicate_getD]; split <;> omega
  · intro i hi; rw [replicate_getD] at hi; split at hi <;> omega
  · intro c _ i hi; rw [replicate_getD] at hi; split at hi <;> omega
  · intro l ⟨h1, h2, h3, h4⟩ hne
    have hmono := fun j => counted_mono hG h3 j
    refine ⟨⟨counted_len g l, counted_bound hG l, ?_, ?_⟩, ?_⟩
    · intro i hi
      have := hmono i
      omega
    · intro c hc i hi
      have := counted_mono hG (h4 c hc) i
      rw [hc] at this
      omega
    · rw [if_neg hne]
      have hle := npos_le g.objs.length (counted g l)
      have hm := npos_mono h3 g.objs.length
      by_cases hp : Pos (counted g l) l
      · have e := counted_pos hG hp h3
        rw [if_pos e]; omega
      · have := npos_lt h3 (counted_len g l) hp
        split <;> omega
theorem goes_greatest {g : G} (hG : Good g) : Goes g 1 (fun l => l.length = g.objs.length ∧ (∀ j : Nat, 0 ≤ l.getD j 0 ∧ l.getD j 0 ≤ 104) ∧ Pos (counted g l) l ∧ ∀ c, Sol g c → Pos c l)
    (fun l => 2 * npos g.objs.length l + if counted g l = l then 0 else 1) := by
  have hall : ∀ (l : List Int), l.length = g.objs.length → Pos l (List.replicate g.objs.length 1) := by
    intro l hl i hi
    rw [replicate_getD]
    rcases Nat.lt_or_ge i g.objs.length with h | h
    · rw [if_pos h]; omega
    · rw [List.getD_eq_getElem?_getD, List.getElem?_eq_none (by omega)] at hi; simp at hi
  refine ⟨⟨by simp, ?_, hall _ (counted_len g _), ?_⟩, fun l h => h.1, fun l h => h.2.1, ?_⟩
  · intro j; rw [replicate_getD]; split <;> omega
  · intro c hc
    exact hall c (by rw [← hc]; exact counted_len g c)
  · intro l ⟨h1, h2, h3, h4⟩ hne
    have hmono := fun j => counted_mono hG h3 j
    refine ⟨⟨counted_len g l, counted_bound hG l, ?_, ?_⟩, ?_⟩
    · intro i hi
      have := hmono i
      omega
    · intro c hc i hi
      have := counted_mono hG (h4 c hc) i
      rw [hc] at this
      omega
    · rw [if_neg hne]
      have hm := npos_mono h3 g.objs.length
      by_cases hp : Pos l (counted g l)
      · have e := counted_pos hG h3 hp
        rw [if_pos e]; omega
      · have := npos_lt h3 h1 hp
        split <;> omega
/-- The least numbers that solve; the greatest ones. -/
theorem least_le {g : G} (hG : Good g) {l c : List Int} (hl : Sol g l) (h : Pos l c) (hc : Sol g c) (j : Nat) : l.getD j 0 ≤ c.getD j 0 := by
  have := counted_mono hG h j
  rw [hl, hc] at this
  exact this
end Go.Proofs.Ytnpbdabboecpaaa
