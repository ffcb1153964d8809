/- The plain law of Trial: what is not held. -/
import Derived.Test.YtdmgpiimacnapaaTd
namespace Go.Proofs.Ytdmgpiimacnapaa
open Go.RowKit Go.Shelf

/-- What is come to from some objects: the least closed set. -/
def TS (g : G) (fr : List Int) (i : Int) : Prop := ∀ S : Int → Prop, (∀ i, S i → ∀ j ∈ targets (fieldsAt g i), S j) → (∀ x ∈ fr, S x) → S i
/-- What Trial tells. -/
structure TrialS (g : G) (fr L : List Int) : Prop where
  rising : L.Pairwise (· < ·)
  rng : ∀ i ∈ L, 0 ≤ i ∧ i < (g.objs.length : Int)
  noroot : ∀ i ∈ L, i ∉ targets g.roots
  refs : ∀ i ∈ L, ∀ j : Nat, j < g.objs.length → i ∈ targets (fieldsAt g j) → (j : Int) ∈ L
  sub : ∀ i ∈ L, TS g fr i
  great : ∀ M : Int → Prop, (∀ i, M i → TS g fr i) → (∀ i, M i → i ∉ targets g.roots) → (∀ i, M i → ∀ j : Nat, j < g.objs.length → i ∈ targets (fieldsAt g j) → M (j : Int)) → ∀ i, M i → i ∈ L

/-- How often each object is among some targets. -/
def cntL (n : Nat) (l : List Int) : List Int := (List.range n).map fun (j : Nat) => ((l.count (j : Int) : Nat) : Int)
theorem cntL_len (n : Nat) (l : List Int) : (cntL n l).length = n := by simp [cntL]
theorem cntL_at {n : Nat} (l : List Int) {j : Nat} (h : j < n) : (cntL n l)[j]? = some ((l.count (j : Int) : Nat) : Int) := by simp [cntL, h]
theorem cntL_getD {n : Nat} (l : List Int) {j : Nat} (h : j < n) : (cntL n l).getD j 0 = ((l.count (j : Int) : Nat) : Int) := by
  rw [List.getD_eq_getElem?_getD, cntL_at l h]; rfl
theorem cntL_nil (n : Nat) : cntL n [] = List.replicate n 0 := by
  apply List.ext_getElem?
  intro j
  by_cases h : j < n
  · rw [cntL_at _ h]; simp [h]
  · simp [cntL, h]
theorem cntL_snoc {n : Nat} (l : List Int) {j : Nat} (h : j < n) {y : Int} (hy : (cntL n l)[j]? = some y) : (cntL n l).set j (y + 1) = cntL n (l ++ [(j : Int)]) := by
  rw [cntL_at l h] at hy
  apply List.ext_getElem?
  intro k
  by_cases hk : k < n
  · rw [List.getElem?_set, cntL_len, cntL_at l hk, cntL_at _ hk]
    by_cases e : j = k
    · subst e
      rw [if_pos rfl, if_pos h]
      cases hy
      simp [List.count_append]
    · rw [if_neg e, List.count_append, List.count_singleton]
      have : (((j : Int) == (k : Int)) = false) := by simp; omega
      rw [this]; simp
  · rw [List.getElem?_eq_none (by simp [cntL_len]; omega), List.getElem?_eq_none (by simp [cntL_len]; omega)]
theorem targets_append (a b : List V) : targets (a ++ b) = targets a ++ targets b := by simp [targets]
theorem targets_nil : targets [] = [] := rfl
theorem flatten_range (l : List (List V)) (j : Int) : (targets l.flatten).count j = ((List.range l.length).map fun (i : Nat) => (targets (l.getD i [])).count j).sum := by
  induction l with
  | nil => rfl
  | cons a l ih =>
    rw [List.flatten_cons, targets_append, List.count_append, ih, List.length_cons, List.range_succ_eq_map, List.map_cons, List.sum_cons, List.map_map]
    congr 1
/-- How often roots, and objects that are not tried, refer to j. -/
def cntIn (g : G) (st : List Int) (j : Int) : Nat := (targets g.roots).count j + ((List.range g.objs.length).map fun (i : Nat) => if st.getD i 0 = 1 then 0 else (targets (fieldsAt g i)).count j).sum
theorem sum_parts (n : Nat) (p : Nat → Prop) [DecidablePred p] (f : Nat → Nat) : ((List.range n).map f).sum = ((List.range n).map fun k => if p k then f k else 0).sum + ((List.range n).map fun k => if p k then 0 else f k).sum := by
  induction n with
  | zero => rfl
  | succ n ih =>
    rw [List.range_succ, List.map_append, List.map_append, List.map_append, List.sum_append, List.sum_append, List.sum_append, ih]
    simp only [List.map_cons, List.map_nil, List.sum_cons, List.sum_nil, Nat.add_zero]
    split <;> omega
theorem cnt_parts (g : G) (st : List Int) (j : Int) : (targets (allV g)).count j = cntOut g st j + cntIn g st j := by
  unfold allV
  rw [targets_append, List.count_append, flatten_range, sum_parts g.objs.length (fun k => st.getD k 0 = 1)]
  unfold cntOut cntIn fieldsAt
  simp only [Int.toNat_natCast]
  omega
theorem sum_pos (n : Nat) (f : Nat → Nat) : 0 < ((List.range n).map f).sum ↔ ∃ k, k < n ∧ 0 < f k := by
  induction n with
  | zero => simp
  | succ n ih =>
    rw [List.range_succ, List.map_append, List.sum_append]
    simp only [List.map_cons, List.map_nil, List.sum_cons, List.sum_nil, Nat.add_zero]
    constructor
    · intro h
      rcases Nat.eq_zero_or_pos (f n) with h0 | h0
      · obtain ⟨k, h1, h2⟩ := ih.1 (by omega)
        exact ⟨k, by omega, h2⟩
      · exact ⟨n, by omega, h0⟩
    · rintro ⟨k, h1, h2⟩
      rcases Nat.lt_or_ge k n with h3 | h3
      · have := ih.2 ⟨k, h3, h2⟩; omega
      · obtain rfl : k = n := by omega
        omega
theorem cntIn_pos {g : G} {st : List Int} {j : Int} : 0 < cntIn g st j ↔ j ∈ targets g.roots ∨ ∃ i : Nat, i < g.objs.length ∧ st.getD i 0 ≠ 1 ∧ j ∈ targets (fieldsAt g i) := by
  unfold cntIn
  have h1 := List.count_pos_iff (a := j) (l := targets g.roots)
  have h2 := sum_pos g.objs.length (fun (i : Nat) => if st.getD i 0 = 1 then 0 else (targets (fieldsAt g i)).count j)
  constructor
  · intro h
    rcases Nat.eq_zero_or_pos ((targets g.roots).count j) with h0 | h0
    · obtain ⟨k, hk, hp⟩ := h2.1 (by omega)
      split at hp
      · omega
      · exact .inr ⟨k, hk, by assumption, List.count_pos_iff.1 hp⟩
    · exact .inl (h1.1 h0)
  · rintro (h | ⟨i, hi, h3, h4⟩)
    · have := h1.2 h; omega
    · have := h2.2 ⟨i, hi, by rw [if_neg h3]; exact List.count_pos_iff.2 h4⟩
      omega
theorem on_nat {st : List Int} {i : Nat} : on st (i : Int) ↔ st.getD i 0 = 1 := by unfold on; simp
theorem not_on_zero (n : Nat) (i : Int) : ¬ on (List.replicate n 0) i := by
  rintro ⟨_, h⟩
  rw [List.getD_eq_getElem?_getD, List.getElem?_replicate] at h
  split at h <;> simp at h
theorem cntOut_zero (g : G) (n : Nat) (j : Int) : cntOut g (List.replicate n 0) j = 0 := by
  have h := sum_pos g.objs.length (fun (i : Nat) => if (List.replicate n (0 : Int)).getD i 0 = 1 then (targets (fieldsAt g i)).count j else 0)
  unfold cntOut
  refine Nat.eq_zero_of_not_pos fun h0 => ?_
  obtain ⟨k, _, hk⟩ := h.1 h0
  split at hk
  · rename_i h1
    exact not_on_zero n (k : Int) (on_nat.2 h1)
  · omega
/-- The objects that stand at one, below k. -/
def onTo (st : List Int) (k : Nat) : List Int := ((List.range k).filter fun i => st.getD i 0 == 1).map fun (i : Nat) => (i : Int)
/-- The objects of which something is left, below k. -/
def posTo (F : List Int) (k : Nat) : List Int := ((List.range k).filter fun i => decide (0 < F.getD i 0)).map fun (i : Nat) => (i : Int)
theorem onTo_succ (st : List Int) (k : Nat) : onTo st (k + 1) = onTo st k ++ if st.getD k 0 == 1 then [(k : Int)] else [] := by
  unfold onTo
  rw [List.range_succ, List.filter_append, List.map_append]
  rw [List.filter_cons, List.filter_nil]
  cases st.getD k 0 == 1 <;> rfl
theorem onTo_len (st : List Int) (k : Nat) : (onTo st k).length ≤ k := by
  unfold onTo
  rw [List.length_map]
  have := List.length_filter_le (fun i => st.getD i 0 == 1) (List.range k)
  simpa using this
theorem posTo_succ (F : List Int) (k : Nat) : posTo F (k + 1) = posTo F k ++ if 0 < F.getD k 0 then [(k : Int)] else [] := by
  unfold posTo
  rw [List.range_succ, List.filter_append, List.map_append]
  rw [List.filter_cons, List.filter_nil]
  by_cases h : 0 < F.getD k 0
  · rw [if_pos h, if_pos (decide_eq_true h)]; rfl
  · rw [if_neg h, if_neg (by simpa using h)]; rfl
theorem mem_onTo {st : List Int} {k : Nat} {x : Int} : x ∈ onTo st k ↔ 0 ≤ x ∧ x < (k : Int) ∧ on st x := by
  unfold onTo on
  rw [List.mem_map]
  constructor
  · rintro ⟨i, hi, rfl⟩
    rw [List.mem_filter, List.mem_range] at hi
    refine ⟨by omega, by omega, by omega, ?_⟩
    simpa using hi.2
  · rintro ⟨h0, h1, _, h2⟩
    refine ⟨x.toNat, ?_, by omega⟩
    rw [List.mem_filter, List.mem_range]
    exact ⟨by omega, by simpa using h2⟩
theorem mem_posTo {F : List Int} {k : Nat} {x : Int} : x ∈ posTo F k ↔ 0 ≤ x ∧ x < (k : Int) ∧ 0 < F.getD x.toNat 0 := by
  unfold posTo
  rw [List.mem_map]
  constructor
  · rintro ⟨i, hi, rfl⟩
    rw [List.mem_filter, List.mem_range] at hi
    refine ⟨by omega, by omega, ?_⟩
    simpa using hi.2
  · rintro ⟨h0, h1, h2⟩
    refine ⟨x.toNat, ?_, by omega⟩
    rw [List.mem_filter, List.mem_range]
    exact ⟨by omega, by simpa using h2⟩
theorem onTo_rising (st : List Int) (k : Nat) : (onTo st k).Pairwise (· < ·) := by
  unfold onTo
  rw [List.pairwise_map]
  exact (List.pairwise_lt_range (n := k)).filter _ |>.imp (by intro a b h; exact_mod_cast h)
theorem target_in {g : G} (hG : Good g) {i : Int} {j : Int} (h : j ∈ targets (fieldsAt g i)) : 0 ≤ j ∧ j < (g.objs.length : Int) := hG.target (fun x hx => fields_all g i x hx) h
theorem TS.rng {g : G} (hG : Good g) {fr : List Int} (hf : ∀ x ∈ fr, 0 ≤ x ∧ x < (g.objs.length : Int)) {i : Int} (h : TS g fr i) : 0 ≤ i ∧ i < (g.objs.length : Int) :=
  h (fun i => 0 ≤ i ∧ i < (g.objs.length : Int)) (fun _ _ _ hj => target_in hG hj) hf
/-- A whole trial. -/
theorem trialS_of {g : G} (hG : Good g) {fr : List Int} (hf : ∀ x ∈ fr, 0 ≤ x ∧ x < (g.objs.length : Int)) {s1 : List Int × List Int} {st2 : List Int}
    (hT : TakeS g (List.replicate g.objs.length 0, cntL g.objs.length (targets (allV g))) s1 fr (fun _ => 0)) (hK : KeepT g s1.1 st2 (posTo s1.2 g.objs.length)) : TrialS g fr (onTo st2 g.objs.length) := by
  have hA : ∀ i, on s1.1 i ↔ TS g fr i := by
    intro i
    constructor
    · intro hi S hS hx
      rcases hT.least S hS hx i hi with h | h
      · exact (not_on_zero _ _ h).elim
      · exact h
    · intro h
      refine h (fun i => on s1.1 i) (fun i hi j hj => ?_) hT.has
      rcases hT.new i hi with h1 | h1
      · exact (not_on_zero _ _ h1).elim
      · exact h1 j hj
  have hB : ∀ j : Nat, j < g.objs.length → (0 < s1.2.getD j 0 ↔ (j : Int) ∈ targets g.roots ∨ ∃ i : Nat, i < g.objs.length ∧ ¬ on s1.1 i ∧ (j : Int) ∈ targets (fieldsAt g i)) := by
    intro j hj
    have h1 := hT.sums j hj
    rw [cntL_getD _ hj, cntOut_zero, cnt_parts g s1.1] at h1
    have h2 := cntIn_pos (g := g) (st := s1.1) (j := (j : Int))
    simp only [on_nat]
    rw [← h2]
    omega
  have hmono : ∀ i : Int, on st2 i → on s1.1 i := by
    rintro i ⟨h0, h1⟩
    rcases hK.mono i.toNat with h | h
    · exact ⟨h0, by omega⟩
    · omega
  have h12 : ∀ i : Nat, on s1.1 i → on st2 i ∨ st2.getD i 0 = 2 := by
    intro i h
    rw [on_nat] at h
    rw [on_nat]
    rcases hK.mono i with h1 | h1 <;> omega
  have hx : ∀ j : Nat, j < g.objs.length → 0 < s1.2.getD j 0 → ¬ on st2 j := by
    intro j hj h
    exact hK.has _ (mem_posTo.2 ⟨by omega, by omega, by simpa using h⟩)
  refine ⟨onTo_rising _ _, ?_, ?_, ?_, ?_, ?_⟩
  · intro i hi; have := mem_onTo.1 hi; omega
  · intro i hi hr
    obtain ⟨h0, h1, h2⟩ := mem_onTo.1 hi
    obtain ⟨k, rfl⟩ : ∃ k : Nat, i = (k : Int) := ⟨i.toNat, by omega⟩
    exact hx k (by omega) ((hB k (by omega)).2 (.inl hr)) h2
  · intro i hi j hj hr
    obtain ⟨h0, h1, h2⟩ := mem_onTo.1 hi
    obtain ⟨k, rfl⟩ : ∃ k : Nat, i = (k : Int) := ⟨i.toNat, by omega⟩
    by_cases hj1 : on s1.1 j
    · rcases h12 j hj1 with h3 | h3
      · exact mem_onTo.2 ⟨by omega, by omega, h3⟩
      · exact (hK.new j (on_nat.1 hj1) h3 _ hr h2).elim
    · exact (hx k (by omega) ((hB k (by omega)).2 (.inr ⟨j, hj, hj1, hr⟩)) h2).elim
  · intro i hi
    exact (hA i).1 (hmono i (mem_onTo.1 hi).2.2)
  · intro M hM1 hM2 hM3 i hi
    have hT1 := hM1 i hi
    have hr := hT1.rng hG hf
    obtain ⟨k, rfl⟩ : ∃ k : Nat, i = (k : Int) := ⟨i.toNat, by omega⟩
    have ho := (hA _).2 hT1
    rcases h12 k ho with h3 | h3
    · exact mem_onTo.2 ⟨by omega, by omega, h3⟩
    · exfalso
      refine (hK.least (fun a => ¬ M a ∧ 0 ≤ a) ?_ ?_ k (on_nat.1 ho) h3).1 hi
      · rintro a ⟨ha, ha0⟩ j hj
        refine ⟨fun hMj => ha ?_, (target_in hG hj).1⟩
        obtain ⟨b, rfl⟩ : ∃ b : Nat, a = (b : Int) := ⟨a.toNat, by omega⟩
        rcases Nat.lt_or_ge b g.objs.length with hb | hb
        · exact hM3 j hMj b hb hj
        · unfold fieldsAt at hj
          rw [List.getD_eq_getElem?_getD, Int.toNat_natCast, List.getElem?_eq_none hb] at hj
          cases hj
      · intro x hx2
        obtain ⟨h0, h1, h2⟩ := mem_posTo.1 hx2
        obtain ⟨b, rfl⟩ : ∃ b : Nat, x = (b : Int) := ⟨x.toNat, by omega⟩
        refine ⟨fun hMb => ?_, h0⟩
        rcases (hB b (by omega)).1 (by simpa using h2) with h4 | ⟨a, ha, h5, h6⟩
        · exact hM2 _ hMb h4
        · exact h5 ((hA _).2 (hM1 _ (hM3 _ hMb a ha h6)))
/-- No reference comes from what is found. -/
theorem TrialS.out {g : G} (hG : Good g) {fr L : List Int} (h : TrialS g fr L) : (∀ j ∈ targets g.roots, j ∉ L ∧ 0 ≤ j) ∧ ∀ i, (i ∉ L ∧ 0 ≤ i) → ∀ j ∈ targets (fieldsAt g i), j ∉ L ∧ 0 ≤ j := by
  refine ⟨fun j hj => ⟨fun hl => h.noroot j hl hj, (hG.target (fun x hx => roots_all g x hx) hj).1⟩, ?_⟩
  rintro i ⟨hi, h0⟩ j hj
  refine ⟨fun hl => hi ?_, (target_in hG hj).1⟩
  obtain ⟨b, rfl⟩ : ∃ b : Nat, i = (b : Int) := ⟨i.toNat, by omega⟩
  rcases Nat.lt_or_ge b g.objs.length with hb | hb
  · exact h.refs j hl b hb hj
  · unfold fieldsAt at hj
    rw [List.getD_eq_getElem?_getD, Int.toNat_natCast, List.getElem?_eq_none hb] at hj
    cases hj
/-- What nobody holds can't be come to. -/
theorem TrialS.far {g : G} (hG : Good g) {fr L l dist : List Int} (h : TrialS g fr L) (hF : Far g l dist) : ∀ y ∈ l, y ∉ L :=
  fun y hy => (hF.leastS (fun i => i ∉ L ∧ 0 ≤ i) (h.out hG).1 (h.out hG).2 y hy).1
/-- Of all objects just those are held that can be come to. -/
theorem TrialS.all {g : G} {fr L l dist : List Int} (h : TrialS g fr L) (hall : ∀ i : Nat, i < g.objs.length → (i : Int) ∈ fr) (hF : Far g l dist) : ∀ i : Nat, i < g.objs.length → (i : Int) ∉ l → (i : Int) ∈ L := by
  intro i hi hl
  refine h.great (fun i => i ∉ l ∧ 0 ≤ i ∧ i < (g.objs.length : Int)) ?_ ?_ ?_ i ⟨hl, by omega, by omega⟩
  · rintro j ⟨_, h0, h1⟩ S _ hS
    have := hS _ (hall j.toNat (by omega))
    rwa [show ((j.toNat : Nat) : Int) = j by omega] at this
  · rintro j ⟨h0, _⟩ hr
    exact h0 (hF.root j hr).1
  · rintro j ⟨h0, _⟩ k hk hj
    exact ⟨fun hm => h0 (hF.closed _ hm j hj).1, by omega, by omega⟩
theorem TS.mono {g : G} {a b : List Int} (h : ∀ x ∈ a, x ∈ b) {i : Int} (hi : TS g a i) : TS g b i := fun S hS hb => hi S hS fun x hx => hb x (h x hx)
/-- Of more objects no less is found. -/
theorem TrialS.more {g : G} {a b L M : List Int} (h : TrialS g a L) (h2 : TrialS g b M) (hab : ∀ x ∈ a, TS g b x) : ∀ x ∈ L, x ∈ M := by
  intro x hx
  refine h2.great (fun i => i ∈ L) (fun i hi => ?_) h.noroot h.refs x hx
  intro S hS hb
  exact h.sub i hi S hS fun y hy => hab y hy S hS hb
theorem TS.of_mem {g : G} {b : List Int} {x : Int} (h : x ∈ b) : TS g b x := fun _ _ hS => hS x h
end Go.Proofs.Ytdmgpiimacnapaa
