/- Relabelled graphs have one Canon. Plain. -/
import Derived.Test.YtjeaaiklbefmmaaWy
namespace Go.Proofs.Ytjeaaiklbefmmaa

/-- h is g, relabelled by p on the objects of L. -/
structure Iso (g h : G) (L : List Int) (p : Int → Int) : Prop where
  rng : ∀ x ∈ L, (0 ≤ x ∧ x < g.objs.length) ∧ 0 ≤ p x ∧ p x < h.objs.length
  inj : ∀ x ∈ L, ∀ y ∈ L, p x = p y → x = y
  roots : h.roots = g.roots.map (turnV p)
  rootsL : ∀ j ∈ targets g.roots, j ∈ L
  fields : ∀ x ∈ L, fieldsAt h (p x) = (fieldsAt g x).map (turnV p)
  fieldsL : ∀ x ∈ L, ∀ j ∈ targets (fieldsAt g x), j ∈ L

theorem targets_map (p : Int → Int) (l : List V) : targets (l.map (turnV p)) = (targets l).map p := by
  induction l with
  | nil => rfl
  | cons v l ih =>
    obtain ⟨r, n⟩ := v
    unfold targets at *
    cases r <;> simp [turnV] <;> simpa using ih

/-- Found in step. -/
structure Rel (L : List Int) (p : Int → Int) (n m : Nat) (s t : S) : Prop where
  lst : t.1 = s.1.map p
  sub : ∀ x ∈ s.1, x ∈ L
  dist : ∀ x ∈ L, D t (p x) = D s x
  ls : s.2.length = n
  lt : t.2.length = m

theorem Rel.take {g h : G} {L : List Int} {p : Int → Int} (I : Iso g h L p) {s t : S} (R : Rel L p g.objs.length h.objs.length s t) {i : Int} (hi : i ∈ L) (d : Int) : Rel L p g.objs.length h.objs.length (take1 d s i) (take1 d t (p i)) := by
  have hD := R.dist i hi
  by_cases h0 : 0 ≤ D s i
  · rw [take1_old h0, take1_old (by rw [hD]; exact h0)]; exact R
  · rw [take1_new (by omega), take1_new (by rw [hD]; omega)]
    have hr := I.rng i hi
    refine ⟨by simp [R.lst], ?_, ?_, by simpa using R.ls, by simpa using R.lt⟩
    · intro x hx
      rcases List.mem_append.1 hx with h | h
      · exact R.sub x h
      · simp at h; subst h; exact hi
    · intro x hx
      have hrx := I.rng x hx
      unfold D
      simp only
      rw [getD_set (by rw [R.lt]; omega), getD_set (by rw [R.ls]; omega)]
      have := R.dist x hx
      unfold D at this
      by_cases e : x = i
      · subst e; simp
      · rw [if_neg ?_, if_neg ?_]
        · exact this
        · omega
        · intro e2
          exact e (I.inj x hx i hi (by omega))

theorem Rel.start {g h : G} {L : List Int} {p : Int → Int} (I : Iso g h L p) : Rel L p g.objs.length h.objs.length ([], List.replicate g.objs.length (-1)) ([], List.replicate h.objs.length (-1)) := by
  refine ⟨rfl, by simp, ?_, by simp, by simp⟩
  intro x hx
  have hr := I.rng x hx
  unfold D
  simp only
  rw [List.getD_eq_getElem?_getD, List.getD_eq_getElem?_getD, List.getElem?_replicate, List.getElem?_replicate, if_pos (by omega), if_pos (by omega)]

theorem Rel.found0 {g h : G} {L : List Int} {p : Int → Int} (I : Iso g h L p) : ∀ (pre : List Int) (s t : S), Rel L p g.objs.length h.objs.length s t → (∀ x ∈ pre, x ∈ L) → Rel L p g.objs.length h.objs.length (pre.foldl (take1 0) s) ((pre.map p).foldl (take1 0) t) := by
  intro pre
  induction pre with
  | nil => intro s t R _; exact R
  | cons a pre ih => intro s t R hp; exact ih _ _ (R.take I (hp a (by simp)) 0) (fun x hx => hp x (by simp [hx]))

theorem Rel.distAt {g h : G} {L : List Int} {p : Int → Int} {s t : S} (R : Rel L p g.objs.length h.objs.length s t) {k : Nat} {x : Int} (hk : s.1[k]? = some x) : Proofs.Ytjeaaiklbefmmaa.distAt t k = Proofs.Ytjeaaiklbefmmaa.distAt s k ∧ t.1[k]? = some (p x) := by
  have hx := R.sub x (List.mem_of_getElem? hk)
  have ht : t.1[k]? = some (p x) := by rw [R.lst, List.getElem?_map, hk]; rfl
  refine ⟨?_, ht⟩
  have := R.dist x hx
  unfold D at this
  unfold Proofs.Ytjeaaiklbefmmaa.distAt
  rw [List.getD_eq_getElem?_getD (l := s.1), hk, List.getD_eq_getElem?_getD (l := t.1), ht]
  exact this

theorem Rel.visitTo {g h : G} {L : List Int} {p : Int → Int} (I : Iso g h L p) {k : Nat} : ∀ (pre : List Int) (s t : S), Rel L p g.objs.length h.objs.length s t → k < s.1.length → (∀ x ∈ pre, x ∈ L) → Rel L p g.objs.length h.objs.length (visitTo s k pre) (visitTo t k (pre.map p)) := by
  intro pre
  induction pre with
  | nil => intro s t R _ _; exact R
  | cons a pre ih =>
    intro s t R hk hp
    obtain ⟨x, hx⟩ := get_some _ _ hk
    have hd := (R.distAt hx).1
    have R2 := R.take I (hp a (by simp)) (Proofs.Ytjeaaiklbefmmaa.distAt s k + 1)
    have := ih _ _ R2 (Nat.lt_of_lt_of_le hk (take1_len _ _ _)) (fun x hx => hp x (by simp [hx]))
    show Rel _ _ _ _ (Proofs.Ytjeaaiklbefmmaa.visitTo (take1 (Proofs.Ytjeaaiklbefmmaa.distAt s k + 1) s a) k pre) (Proofs.Ytjeaaiklbefmmaa.visitTo (take1 (Proofs.Ytjeaaiklbefmmaa.distAt t k + 1) t (p a)) k (pre.map p))
    rw [hd]
    exact this

theorem iso_foundAt {g h : G} {L : List Int} {p : Int → Int} (I : Iso g h L p) : ∀ k, (∀ j, j < k → j < (foundAt g j).1.length) → Rel L p g.objs.length h.objs.length (foundAt g k) (foundAt h k)
  | 0, _ => by
    show Rel _ _ _ _ (found0 g.objs.length (targets g.roots)) (found0 h.objs.length (targets h.roots))
    rw [I.roots, targets_map]
    exact Rel.found0 I _ _ _ (Rel.start I) I.rootsL
  | k + 1, hk => by
    have ih := iso_foundAt I k (fun j hj => hk j (by omega))
    have hlt := hk k (by omega)
    obtain ⟨x, hx⟩ := get_some _ _ hlt
    obtain ⟨_, ht⟩ := ih.distAt hx
    have hxL := ih.sub x (List.mem_of_getElem? hx)
    show Rel _ _ _ _ (visit g (foundAt g k) k) (visit h (foundAt h k) k)
    unfold visit
    rw [show (foundAt g k).1.getD k 0 = x by rw [List.getD_eq_getElem?_getD, hx]; rfl, show (foundAt h k).1.getD k 0 = p x by rw [List.getD_eq_getElem?_getD, ht]; rfl, I.fields x hxL, targets_map]
    exact Rel.visitTo I _ _ _ ih hlt (I.fieldsL x hxL)

theorem iso_found {g h : G} {L : List Int} {p : Int → Int} (I : Iso g h L p) {l dist : List Int} (hf : FoundS g l dist) : ∃ dist', FoundS h (l.map p) dist' ∧ (∀ x ∈ l, x ∈ L) ∧ ∀ x ∈ L, D (l.map p, dist') (p x) = D (l, dist) x := by
  obtain ⟨k, h1, h2, h3⟩ := hf
  have R := iso_foundAt I k h3
  have hl : (foundAt h k).1 = l.map p := by rw [R.lst, h1]
  refine ⟨(foundAt h k).2, ⟨k, by rw [← hl], by rw [List.length_map]; exact h2, ?_⟩, ?_, ?_⟩
  · intro j hj
    have Rj := iso_foundAt I j (fun i hi => h3 i (by omega))
    rw [Rj.lst, List.length_map]
    exact h3 j hj
  · intro x hx
    exact R.sub x (by rw [h1]; exact hx)
  · intro x hx
    have := R.dist x hx
    rw [h1] at this
    rw [← this]
    unfold D; rfl

theorem at_map {L l : List Int} {p : Int → Int} (hinj : ∀ x ∈ L, ∀ y ∈ L, p x = p y → x = y) (hl : ∀ x ∈ l, x ∈ L) {y : Int} (hy : y ∈ L) : ∀ k, k ≤ l.length → at_ (l.map p) k (p y) = at_ l k y := by
  intro k
  induction k with
  | zero => intro _; rfl
  | succ k ih =>
    intro hk
    obtain ⟨z, hz⟩ := get_some l k (by omega)
    have e1 : l.getD k 0 = z := by rw [List.getD_eq_getElem?_getD, hz]; rfl
    have e2 : (l.map p).getD k 0 = p z := by rw [List.getD_eq_getElem?_getD, List.getElem?_map, hz]; rfl
    unfold at_
    rw [e1, e2, ih (by omega)]
    by_cases e : y = z
    · subst e; simp
    · rw [if_neg e, if_neg (fun h => e (hinj y hy z (hl z (List.mem_of_getElem? hz)) h))]

theorem turn_turn {p q r : Int → Int} {l : List V} (h : ∀ j ∈ targets l, q (p j) = r j) : (l.map (turnV p)).map (turnV q) = l.map (turnV r) := by
  rw [List.map_map]
  apply List.map_congr_left
  intro v hv
  obtain ⟨b, n⟩ := v
  cases b
  · rfl
  · simp only [Function.comp, turnV, if_true]
    rw [h n (mem_targets hv rfl)]

theorem iso_renum {g h : G} {L : List Int} {p : Int → Int} (I : Iso g h L p) {l : List Int} (hl : ∀ x ∈ l, x ∈ L) : renum h (l.map p) = renum g l := by
  unfold renum
  have e : ∀ y ∈ L, at_ (l.map p) (l.map p).length (p y) = at_ l l.length y := by
    intro y hy
    rw [List.length_map]
    exact at_map I.inj hl hy _ (Nat.le_refl _)
  congr 1
  · rw [List.map_map]
    apply List.map_congr_left
    intro x hx
    simp only [Function.comp]
    rw [I.fields x (hl x hx)]
    exact turn_turn (fun j hj => e j (I.fieldsL x (hl x hx) j hj))
  · rw [I.roots]
    exact turn_turn (fun j hj => e j (I.rootsL j hj))
theorem iso_canon {g h : G} {L : List Int} {p : Int → Int} (I : Iso g h L p) {c d : G} (hc : CanonS g c) (hd : CanonS h d) : c = d := by
  obtain ⟨l, dist, hf, rfl⟩ := hc
  obtain ⟨dist', hf', hl, _⟩ := iso_found I hf
  have : CanonS h (renum h (l.map p)) := ⟨_, _, hf', rfl⟩
  rw [iso_renum I hl] at this
  exact this.unique hd
end Go.Proofs.Ytjeaaiklbefmmaa
