/- Texts Is Cp Iw S2 S3 in one. -/
import Derived.Test.YtmmcjjklmcfegaaBase1
import Derived.Test.YtmmcjjklmcfegaaBase4
import Derived.Test.YtmmcjjklmcfegaaS0
/- Relabelled graphs have one Canon. Plain. -/
namespace Go.Proofs.Ytmmcjjklmcfegaa


/-- Found in step. -/
structure Rel (L : List Int) (p : Int → Int) (n m : Nat) (s t : S) : Prop where
  lst : t.1 = s.1.map p
  sub : ∀ x ∈ s.1, x ∈ L
  dist : ∀ x ∈ L, D t (p x) = D s x
  ls : s.2.length = n
  lt : t.2.length = m

theorem Rel.take {g h : G} {L : List Int} {p : Int → Int} (I : Iso g h L p) {s t : S} (R : Rel L p g.objs.length h.objs.length s t) {i : Int} (hi : i ∈ L) (d : Int) : Rel L p g.objs.length h.objs.length (take1 d s i) (take1 d t (p i)) := by
  have hD := R.dist i hi
  by_cases h0 : 0 ≤ D s i
  · rw [take1_old h0, take1_old (by rw [hD]; exact h0)]; exact R
  · rw [take1_new (by omega), take1_new (by rw [hD]; omega)]
    have hr := I.rng i hi
    refine ⟨by simp [R.lst], ?_, ?_, by simpa using R.ls, by simpa using R.lt⟩
    · intro x hx
      rcases List.mem_append.1 hx with h | h
      · exact R.sub x h
      · simp at h; subst h; exact hi
    · intro x hx
      have hrx := I.rng x hx
      unfold D
      simp only
      rw [getD_set (by rw [R.lt]; omega), getD_set (by rw [R.ls]; omega)]
      have := R.dist x hx
      unfold D at this
      by_cases e : x = i
      · subst e; simp
      · rw [if_neg ?_, if_neg ?_]
        · exact this
        · omega
        · intro e2
          exact e (I.inj x hx i hi (by omega))

theorem Rel.start {g h : G} {L : List Int} {p : Int → Int} (I : Iso g h L p) : Rel L p g.objs.length h.objs.length ([], List.replicate g.objs.length (-1)) ([], List.replicate h.objs.length (-1)) := by
  refine ⟨rfl, by simp, ?_, by simp, by simp⟩
  intro x hx
  have hr := I.rng x hx
  unfold D
  simp only
  rw [List.getD_eq_getElem?_getD, List.getD_eq_getElem?_getD, List.getElem?_replicate, List.getElem?_replicate, if_pos (by omega), if_pos (by omega)]

theorem Rel.found0 {g h : G} {L : List Int} {p : Int → Int} (I : Iso g h L p) : ∀ (pre : List Int) (s t : S), Rel L p g.objs.length h.objs.length s t → (∀ x ∈ pre, x ∈ L) → Rel L p g.objs.length h.objs.length (pre.foldl (take1 0) s) ((pre.map p).foldl (take1 0) t) := by
  intro pre
  induction pre with
  | nil => intro s t R _; exact R
  | cons a pre ih => intro s t R hp; exact ih _ _ (R.take I (hp a (by simp)) 0) (fun x hx => hp x (by simp [hx]))

theorem Rel.distAt {g h : G} {L : List Int} {p : Int → Int} {s t : S} (R : Rel L p g.objs.length h.objs.length s t) {k : Nat} {x : Int} (hk : s.1[k]? = some x) : Proofs.Ytmmcjjklmcfegaa.distAt t k = Proofs.Ytmmcjjklmcfegaa.distAt s k ∧ t.1[k]? = some (p x) := by
  have hx := R.sub x (List.mem_of_getElem? hk)
  have ht : t.1[k]? = some (p x) := by rw [R.lst, List.getElem?_map, hk]; rfl
  refine ⟨?_, ht⟩
  have := R.dist x hx
  unfold D at this
  unfold Proofs.Ytmmcjjklmcfegaa.distAt
  rw [List.getD_eq_getElem?_getD (l := s.1), hk, List.getD_eq_getElem?_getD (l := t.1), ht]
  exact this

theorem Rel.visitTo {g h : G} {L : List Int} {p : Int → Int} (I : Iso g h L p) {k : Nat} : ∀ (pre : List Int) (s t : S), Rel L p g.objs.length h.objs.length s t → k < s.1.length → (∀ x ∈ pre, x ∈ L) → Rel L p g.objs.length h.objs.length (visitTo s k pre) (visitTo t k (pre.map p)) := by
  intro pre
  induction pre with
  | nil => intro s t R _ _; exact R
  | cons a pre ih =>
    intro s t R hk hp
    obtain ⟨x, hx⟩ := get_some _ _ hk
    have hd := (R.distAt hx).1
    have R2 := R.take I (hp a (by simp)) (Proofs.Ytmmcjjklmcfegaa.distAt s k + 1)
    have := ih _ _ R2 (Nat.lt_of_lt_of_le hk (take1_len _ _ _)) (fun x hx => hp x (by simp [hx]))
    show Rel _ _ _ _ (Proofs.Ytmmcjjklmcfegaa.visitTo (take1 (Proofs.Ytmmcjjklmcfegaa.distAt s k + 1) s a) k pre) (Proofs.Ytmmcjjklmcfegaa.visitTo (take1 (Proofs.Ytmmcjjklmcfegaa.distAt t k + 1) t (p a)) k (pre.map p))
    rw [hd]
    exact this

theorem iso_foundAt {g h : G} {L : List Int} {p : Int → Int} (I : Iso g h L p) : ∀ k, (∀ j, j < k → j < (foundAt g j).1.length) → Rel L p g.objs.length h.objs.length (foundAt g k) (foundAt h k)
  | 0, _ => by
    show Rel _ _ _ _ (found0 g.objs.length (targets g.roots)) (found0 h.objs.length (targets h.roots))
    rw [I.roots, targets_map]
    exact Rel.found0 I _ _ _ (Rel.start I) I.rootsL
  | k + 1, hk => by
    have ih := iso_foundAt I k (fun j hj => hk j (by omega))
    have hlt := hk k (by omega)
    obtain ⟨x, hx⟩ := get_some _ _ hlt
    obtain ⟨_, ht⟩ := ih.distAt hx
    have hxL := ih.sub x (List.mem_of_getElem? hx)
    show Rel _ _ _ _ (visit g (foundAt g k) k) (visit h (foundAt h k) k)
    unfold visit
    rw [show (foundAt g k).1.getD k 0 = x by rw [List.getD_eq_getElem?_getD, hx]; rfl, show (foundAt h k).1.getD k 0 = p x by rw [List.getD_eq_getElem?_getD, ht]; rfl, I.fields x hxL, targets_map]
    exact Rel.visitTo I _ _ _ ih hlt (I.fieldsL x hxL)

theorem iso_found {g h : G} {L : List Int} {p : Int → Int} (I : Iso g h L p) {l dist : List Int} (hf : FoundS g l dist) : ∃ dist', FoundS h (l.map p) dist' ∧ (∀ x ∈ l, x ∈ L) ∧ ∀ x ∈ L, D (l.map p, dist') (p x) = D (l, dist) x := by
  obtain ⟨k, h1, h2, h3⟩ := hf
  have R := iso_foundAt I k h3
  have hl : (foundAt h k).1 = l.map p := by rw [R.lst, h1]
  refine ⟨(foundAt h k).2, ⟨k, by rw [← hl], by rw [List.length_map]; exact h2, ?_⟩, ?_, ?_⟩
  · intro j hj
    have Rj := iso_foundAt I j (fun i hi => h3 i (by omega))
    rw [Rj.lst, List.length_map]
    exact h3 j hj
  · intro x hx
    exact R.sub x (by rw [h1]; exact hx)
  · intro x hx
    have := R.dist x hx
    rw [h1] at this
    rw [← this]
    unfold D; rfl

theorem at_map {L l : List Int} {p : Int → Int} (hinj : ∀ x ∈ L, ∀ y ∈ L, p x = p y → x = y) (hl : ∀ x ∈ l, x ∈ L) {y : Int} (hy : y ∈ L) : ∀ k, k ≤ l.length → at_ (l.map p) k (p y) = at_ l k y := by
  intro k
  induction k with
  | zero => intro _; rfl
  | succ k ih =>
    intro hk
    obtain ⟨z, hz⟩ := get_some l k (by omega)
    have e1 : l.getD k 0 = z := by rw [List.getD_eq_getElem?_getD, hz]; rfl
    have e2 : (l.map p).getD k 0 = p z := by rw [List.getD_eq_getElem?_getD, List.getElem?_map, hz]; rfl
    unfold at_
    rw [e1, e2, ih (by omega)]
    by_cases e : y = z
    · subst e; simp
    · rw [if_neg e, if_neg (fun h => e (hinj y hy z (hl z (List.mem_of_getElem? hz)) h))]

theorem turn_turn {p q r : Int → Int} {l : List V} (h : ∀ j ∈ targets l, q (p j) = r j) : (l.map (turnV p)).map (turnV q) = l.map (turnV r) := by
  rw [List.map_map]
  apply List.map_congr_left
  intro v hv
  obtain ⟨b, n⟩ := v
  cases b
  · rfl
  · simp only [Function.comp, turnV, if_true]
    rw [h n (mem_targets hv rfl)]

theorem iso_renum {g h : G} {L : List Int} {p : Int → Int} (I : Iso g h L p) {l : List Int} (hl : ∀ x ∈ l, x ∈ L) : renum h (l.map p) = renum g l := by
  unfold renum
  have e : ∀ y ∈ L, at_ (l.map p) (l.map p).length (p y) = at_ l l.length y := by
    intro y hy
    rw [List.length_map]
    exact at_map I.inj hl hy _ (Nat.le_refl _)
  congr 1
  · rw [List.map_map]
    apply List.map_congr_left
    intro x hx
    simp only [Function.comp]
    rw [I.fields x (hl x hx)]
    exact turn_turn (fun j hj => e j (I.fieldsL x (hl x hx) j hj))
  · rw [I.roots]
    exact turn_turn (fun j hj => e j (I.rootsL j hj))
theorem iso_canon {g h : G} {L : List Int} {p : Int → Int} (I : Iso g h L p) {c d : G} (hc : CanonS g c) (hd : CanonS h d) : c = d := by
  obtain ⟨l, dist, hf, rfl⟩ := hc
  obtain ⟨dist', hf', hl, _⟩ := iso_found I hf
  have : CanonS h (renum h (l.map p)) := ⟨_, _, hf', rfl⟩
  rw [iso_renum I hl] at this
  exact this.unique hd
end Go.Proofs.Ytmmcjjklmcfegaa

/- Places in a list, as Renumber's map tells them. Plain. -/
namespace Go.Proofs.Ytmmcjjklmcfegaa

theorem at_get {l : List Int} (hn : l.Nodup) {i : Nat} {y : Int} (hi : l[i]? = some y) : ∀ k, i < k → k ≤ l.length → at_ l k y = i := by
  intro k
  induction k with
  | zero => intro h; omega
  | succ k ih =>
    intro h1 h2
    obtain ⟨z, hz⟩ := get_some l k (by omega)
    have e : l.getD k 0 = z := by rw [List.getD_eq_getElem?_getD, hz]; rfl
    unfold at_
    rw [e]
    by_cases hik : i = k
    · subst hik
      rw [hi] at hz; cases hz
      rw [if_pos rfl]
    · rw [if_neg ?_, ih (by omega) (by omega)]
      rintro rfl
      obtain ⟨hi1, hi2⟩ := List.getElem?_eq_some_iff.1 hi
      obtain ⟨hk1, hk2⟩ := List.getElem?_eq_some_iff.1 hz
      have := List.pairwise_iff_getElem.1 hn i k hi1 hk1 (by omega)
      exact this (by rw [hi2, hk2])
theorem at_place {l : List Int} (hn : l.Nodup) {i : Nat} {y : Int} (hi : l[i]? = some y) : at_ l l.length y = i := at_get hn hi _ (List.getElem?_eq_some_iff.1 hi).1 (Nat.le_refl _)
theorem at_inj {l : List Int} (hn : l.Nodup) {x y : Int} (hx : x ∈ l) (hy : y ∈ l) : at_ l l.length x = at_ l l.length y ↔ x = y := by
  obtain ⟨i, hi, rfl⟩ := List.getElem_of_mem hx
  obtain ⟨j, hj, rfl⟩ := List.getElem_of_mem hy
  rw [at_place hn (List.getElem?_eq_getElem hi), at_place hn (List.getElem?_eq_getElem hj)]
  constructor
  · intro h; have : i = j := by omega
    subst this; rfl
  · intro h
    have := (List.getElem_inj hn).1 h
    omega
theorem renum_fields {g : G} {l : List Int} {i : Nat} {x : Int} (hi : l[i]? = some x) : fieldsAt (renum g l) (i : Int) = (fieldsAt g x).map (turnV (at_ l l.length)) := by
  show (l.map _).getD (i : Int).toNat [] = _
  rw [Int.toNat_natCast, List.getD_eq_getElem?_getD, List.getElem?_map, hi]; rfl
end Go.Proofs.Ytmmcjjklmcfegaa

/- A graph and the same numbered as found. Plain. -/
namespace Go.Proofs.Ytmmcjjklmcfegaa

theorem iso_self {g : G} {l dist : List Int} (h : Far g l dist) : Iso g (renum g l) l (at_ l l.length) := by
  have hlen : (renum g l).objs.length = l.length := by simp [renum]
  refine ⟨?_, ?_, rfl, fun j hj => (h.root j hj).1, ?_, fun x hx j hj => (h.closed x hx j hj).1⟩
  · intro x hx
    obtain ⟨i, hi, he⟩ := List.getElem_of_mem hx
    have hr := h.inv.rng x hx
    rw [at_place h.inv.nodup (show l[i]? = some x by rw [List.getElem?_eq_getElem hi, he]), hlen]
    exact ⟨hr, by omega, by omega⟩
  · intro x hx y hy he
    exact (at_inj h.inv.nodup hx hy).1 he
  · intro x hx
    obtain ⟨i, hi, he⟩ := List.getElem_of_mem hx
    have hg : l[i]? = some x := by rw [List.getElem?_eq_getElem hi, he]
    rw [at_place h.inv.nodup hg]
    exact renum_fields hg

end Go.Proofs.Ytmmcjjklmcfegaa

/- Two memories without end, alike but for numbers: the same is told of both, step by step. Plain. -/
namespace Go.Proofs.Ytmmcjjklmcfegaa

structure SIm (s t : Sm Unit) (L : List Int) (p : Int → Int) : Prop where
  rng : ∀ x ∈ L, (0 ≤ x ∧ x < s.os.length) ∧ 0 ≤ p x ∧ p x < t.os.length
  inj : ∀ x ∈ L, ∀ y ∈ L, p x = p y → x = y
  regs : t.regs = s.regs.map (turnV p)
  regsL : ∀ v ∈ s.regs, v.ref = true → v.n ∈ L
  flds : ∀ x ∈ L, objAt t.os (p x) = (objAt s.os x).map (turnV p)
  fldsL : ∀ x ∈ L, ∀ v ∈ objAt s.os x, v.ref = true → v.n ∈ L
theorem turn_ref (p : Int → Int) (v : V) : (turnV p v).ref = v.ref := by unfold turnV; split <;> simp_all
theorem turn_yes {p : Int → Int} {v : V} (h : v.ref = true) : turnV p v = ⟨true, p v.n⟩ := by unfold turnV; rw [if_pos h]
theorem turn_no {p : Int → Int} {v : V} (h : v.ref = false) : turnV p v = v := by unfold turnV; rw [if_neg (by rw [h]; decide)]
theorem turn_congr {p q : Int → Int} {v : V} (h : v.ref = true → p v.n = q v.n) : turnV p v = turnV q v := by
  cases hr : v.ref with
  | true => rw [turn_yes hr, turn_yes hr, h hr]
  | false => rw [turn_no hr, turn_no hr]
section
variable {s t : Sm Unit} {L : List Int} {p : Int → Int}
theorem SIm.reg (h : SIm s t L p) (h8 : s.regs.length = 8) {r : Int} (h0 : 0 ≤ r) (h1 : r < 8) : reg t.regs r = turnV p (reg s.regs r) ∧ ((reg s.regs r).ref = true → (reg s.regs r).n ∈ L) := by
  have hs := reg_get (l := s.regs) h0 (by rw [h8]; exact h1)
  have ht := reg_get (l := t.regs) h0 (by rw [h.regs, List.length_map, h8]; exact h1)
  rw [h.regs, List.getElem?_map, hs] at ht
  refine ⟨?_, h.regsL _ (List.mem_of_getElem? hs)⟩
  rw [h.regs]
  exact (Option.some.inj ht).symm
theorem SIm.set (h : SIm s t L p) (r : Int) {u : V} (hu : u.ref = true → u.n ∈ L) : SIm (iKd.set s r u) (iKd.set t r (turnV p u)) L p := by
  refine ⟨h.rng, h.inj, ?_, ?_, h.flds, h.fldsL⟩
  · show t.regs.set r.toNat (turnV p u) = (s.regs.set r.toNat u).map (turnV p)
    rw [h.regs, List.map_set]
  · intro v hv
    rcases List.mem_or_eq_of_mem_set (show v ∈ s.regs.set r.toNat u from hv) with h1 | rfl
    · exact h.regsL v h1
    · exact hu
theorem objAt_push (os : Os) (c : Option (List V)) {x : Int} (h0 : 0 ≤ x) (h1 : x < os.length) : objAt (os ++ [c]) x = objAt os x := by
  unfold objAt; rw [List.getElem?_append_left (by omega)]
theorem objAt_new (os : Os) (l : List V) : objAt (os ++ [some l]) (os.length : Int) = l := by
  unfold objAt; rw [Int.toNat_natCast, List.getElem?_append_right (Nat.le_refl _)]; simp
theorem objAt_set (os : Os) {x j : Int} (h0 : 0 ≤ x) (hj : 0 ≤ j) (h1 : j < os.length) (l : List V) : objAt (os.set j.toNat (some l)) x = if x = j then l else objAt os x := by
  unfold objAt
  by_cases e : x = j
  · subst e
    rw [if_pos rfl, List.getElem?_set_self (by omega)]; rfl
  · rw [if_neg e, List.getElem?_set_ne (by omega)]
theorem SIm.step (h : SIm s t L p) (hs : InvI s) (d : Dd) : (iKd.step s d).2 = (iKd.step t d).2 ∧ ∃ L' p', SIm (iKd.step s d).1 (iKd.step t d).1 L' p' := by
  have h8 := hs.fine.regs8
  unfold Kd.step
  by_cases hw : wrongC d ≠ 0
  · rw [if_pos hw, if_pos hw]; exact ⟨rfl, L, p, h⟩
  rw [if_neg hw, if_neg hw]
  have hw0 : wrongC d = 0 := Classical.byContradiction hw
  obtain ⟨k1, k7, hto, hfr, hn, hn2⟩ := wrong_zero hw0
  by_cases e1 : d.kind = 1
  · rw [if_pos e1, if_pos e1]
    refine ⟨rfl, (s.os.length : Int) :: L, fun x => if x = s.os.length then (t.os.length : Int) else p x, ?_⟩
    have hne : ∀ x ∈ L, ¬ x = (s.os.length : Int) := fun x hx => by have := (h.rng x hx).1; omega
    have hq : ∀ v : V, (v.ref = true → v.n ∈ L) → turnV (fun x => if x = s.os.length then (t.os.length : Int) else p x) v = turnV p v := fun v hv => turn_congr (fun hr => if_neg (hne _ (hv hr)))
    refine ⟨?_, ?_, ?_, ?_, ?_, ?_⟩
    · intro x hx
      show (0 ≤ x ∧ x < ((s.os ++ [_]).length : Int)) ∧ 0 ≤ (if x = (s.os.length : Int) then (t.os.length : Int) else p x) ∧ (if x = (s.os.length : Int) then (t.os.length : Int) else p x) < ((t.os ++ [_]).length : Int)
      rw [List.length_append, List.length_append]
      simp only [List.length_cons, List.length_nil]
      rcases List.mem_cons.1 hx with rfl | hx
      · rw [if_pos rfl]; omega
      · have := h.rng x hx
        rw [if_neg (hne x hx)]; omega
    · intro x hx y hy e0
      have e : (if x = (s.os.length : Int) then (t.os.length : Int) else p x) = (if y = (s.os.length : Int) then (t.os.length : Int) else p y) := e0
      rcases List.mem_cons.1 hx with rfl | hx <;> rcases List.mem_cons.1 hy with rfl | hy
      · rfl
      · rw [if_pos rfl, if_neg (hne y hy)] at e
        have := (h.rng y hy).2; omega
      · rw [if_pos rfl, if_neg (hne x hx)] at e
        have := (h.rng x hx).2; omega
      · rw [if_neg (hne x hx), if_neg (hne y hy)] at e
        exact h.inj x hx y hy e
    · show t.regs.set d.to_.toNat ⟨true, (t.os.length : Int)⟩ = (s.regs.set d.to_.toNat ⟨true, (s.os.length : Int)⟩).map _
      rw [List.map_set, h.regs]
      congr 1
      · exact List.map_congr_left (fun v hv => (hq v (h.regsL v hv)).symm)
      · rw [turn_yes rfl]; simp
    · intro v hv hr
      rcases List.mem_or_eq_of_mem_set (show v ∈ s.regs.set d.to_.toNat ⟨true, (s.os.length : Int)⟩ from hv) with h1 | rfl
      · exact List.mem_cons_of_mem _ (h.regsL v h1 hr)
      · exact List.mem_cons_self ..
    · intro x hx
      show objAt (t.os ++ [_]) (if x = (s.os.length : Int) then (t.os.length : Int) else p x) = (objAt (s.os ++ [_]) x).map _
      rcases List.mem_cons.1 hx with rfl | hx
      · rw [if_pos rfl, objAt_new, objAt_new]
        unfold zerosV
        rw [List.map_replicate]; rfl
      · have hr := h.rng x hx
        rw [if_neg (hne x hx), objAt_push _ _ hr.2.1 hr.2.2, objAt_push _ _ hr.1.1 hr.1.2, h.flds x hx]
        exact List.map_congr_left (fun v hv => (hq v (h.fldsL x hx v hv)).symm)
    · intro x hx v hv hr
      have hv2 : v ∈ objAt (s.os ++ [some (zerosV d.n.toNat)]) x := hv
      rcases List.mem_cons.1 hx with rfl | hx
      · rw [objAt_new] at hv2
        rw [mem_zeros hv2] at hr; cases hr
      · have h2 := h.rng x hx
        rw [objAt_push _ _ h2.1.1 h2.1.2] at hv2
        exact List.mem_cons_of_mem _ (h.fldsL x hx v hv2 hr)
  rw [if_neg e1, if_neg e1]
  by_cases e2 : d.kind = 2
  · rw [if_pos e2, if_pos e2]
    refine ⟨rfl, L, p, ?_⟩
    have := h.set d.to_ (u := ⟨false, d.n⟩) (fun h => by cases h)
    rwa [turn_no rfl] at this
  rw [if_neg e2, if_neg e2]
  have hf := hfr (by omega)
  obtain ⟨hq1, hq2⟩ := h.reg h8 hf.1 hf.2
  by_cases e3 : d.kind = 3
  · rw [if_pos e3, if_pos e3, hq1]
    exact ⟨rfl, L, p, h.set d.to_ hq2⟩
  rw [if_neg e3, if_neg e3]
  have hfc : ∀ u : V, (u.ref = true → u.n ∈ L) → fieldC t.os (turnV p u) d.at_ = fieldC s.os u d.at_ := by
    intro u hu
    unfold fieldC
    rw [turn_ref]
    cases hr : u.ref with
    | false => rfl
    | true =>
      have : objAt t.os (turnV p u).n = (objAt s.os u.n).map (turnV p) := by rw [turn_yes hr]; exact h.flds _ (hu hr)
      rw [this, List.length_map]
  by_cases e4 : d.kind = 4
  · rw [if_pos e4, if_pos e4]
    have ht := hto (by omega)
    obtain ⟨hr1, hr2⟩ := h.reg h8 ht.1 ht.2
    rw [hr1, hq1, hfc _ hr2]
    by_cases hz : fieldC s.os (Proofs.Ytmmcjjklmcfegaa.reg s.regs d.to_) d.at_ ≠ 0
    · rw [if_pos hz, if_pos hz]; exact ⟨rfl, L, p, h⟩
    · rw [if_neg hz, if_neg hz]
      refine ⟨rfl, L, p, ?_⟩
      obtain ⟨f1, f2, f3⟩ := field_zero (Classical.byContradiction hz)
      have hxL := hr2 f1
      obtain ⟨u, hu⟩ : ∃ u, Proofs.Ytmmcjjklmcfegaa.reg s.regs d.to_ = u := ⟨_, rfl⟩
      obtain ⟨v, hv⟩ : ∃ v, Proofs.Ytmmcjjklmcfegaa.reg s.regs d.frm = v := ⟨_, rfl⟩
      rw [hu] at hxL f1 f3 ⊢
      rw [hv] at hq2 ⊢
      rw [turn_yes f1]
      have hrx := h.rng _ hxL
      refine ⟨?_, h.inj, h.regs, h.regsL, ?_, ?_⟩
      · intro x hx
        show (0 ≤ x ∧ x < ((s.os.set _ _).length : Int)) ∧ 0 ≤ p x ∧ p x < ((t.os.set _ _).length : Int)
        rw [List.length_set, List.length_set]; exact h.rng x hx
      · intro x hx
        show objAt (t.os.set (p u.n).toNat (some ((objAt t.os (p u.n)).set d.at_.toNat (turnV p v)))) (p x) = (objAt (s.os.set u.n.toNat (some ((objAt s.os u.n).set d.at_.toNat v))) x).map (turnV p)
        have hr := h.rng x hx
        rw [objAt_set _ hr.2.1 hrx.2.1 hrx.2.2, objAt_set _ hr.1.1 hrx.1.1 hrx.1.2]
        by_cases e : x = u.n
        · subst e
          rw [if_pos rfl, if_pos rfl, h.flds _ hx, List.map_set]
        · rw [if_neg e, if_neg (fun e' => e (h.inj x hx _ hxL e')), h.flds x hx]
      · intro x hx w hw2 hr
        have hw3 : w ∈ objAt (s.os.set u.n.toNat (some ((objAt s.os u.n).set d.at_.toNat v))) x := hw2
        have hrx2 := h.rng x hx
        rw [objAt_set _ hrx2.1.1 hrx.1.1 hrx.1.2] at hw3
        split at hw3
        · rcases List.mem_or_eq_of_mem_set hw3 with h1 | rfl
          · exact h.fldsL _ hxL w h1 hr
          · exact hq2 hr
        · exact h.fldsL x hx w hw3 hr
  rw [if_neg e4, if_neg e4]
  by_cases e5 : d.kind = 5
  · rw [if_pos e5, if_pos e5, hq1, hfc _ hq2]
    by_cases hz : fieldC s.os (Proofs.Ytmmcjjklmcfegaa.reg s.regs d.frm) d.at_ ≠ 0
    · rw [if_pos hz, if_pos hz]; exact ⟨rfl, L, p, h⟩
    · rw [if_neg hz, if_neg hz]
      refine ⟨rfl, L, p, ?_⟩
      obtain ⟨f1, f2, f3⟩ := field_zero (Classical.byContradiction hz)
      have hxL := hq2 f1
      rw [turn_yes f1]
      have hlt : d.at_.toNat < (objAt s.os (Proofs.Ytmmcjjklmcfegaa.reg s.regs d.frm).n).length := by omega
      have hg : (objAt t.os (p (Proofs.Ytmmcjjklmcfegaa.reg s.regs d.frm).n)).getD d.at_.toNat ⟨false, 0⟩ = turnV p ((objAt s.os (Proofs.Ytmmcjjklmcfegaa.reg s.regs d.frm).n).getD d.at_.toNat ⟨false, 0⟩) := by
        rw [h.flds _ hxL, List.getD_eq_getElem?_getD, List.getD_eq_getElem?_getD, List.getElem?_map, List.getElem?_eq_getElem hlt]; rfl
      show SIm _ (iKd.set t d.to_ ((objAt t.os (p (Proofs.Ytmmcjjklmcfegaa.reg s.regs d.frm).n)).getD d.at_.toNat ⟨false, 0⟩)) L p
      rw [hg]
      refine h.set d.to_ (h.fldsL _ hxL _ ?_)
      rw [List.getD_eq_getElem?_getD, List.getElem?_eq_getElem hlt]
      exact List.getElem_mem _
  rw [if_neg e5, if_neg e5]
  by_cases e6 : d.kind = 6
  · rw [if_pos e6, if_pos e6]
    have ht := hto (by omega)
    obtain ⟨hr1, hr2⟩ := h.reg h8 ht.1 ht.2
    refine ⟨?_, L, p, h⟩
    rw [hr1, hq1]
    have : turnV p (Proofs.Ytmmcjjklmcfegaa.reg s.regs d.to_) = turnV p (Proofs.Ytmmcjjklmcfegaa.reg s.regs d.frm) ↔ Proofs.Ytmmcjjklmcfegaa.reg s.regs d.to_ = Proofs.Ytmmcjjklmcfegaa.reg s.regs d.frm := by
      obtain ⟨u, hu⟩ : ∃ u, Proofs.Ytmmcjjklmcfegaa.reg s.regs d.to_ = u := ⟨_, rfl⟩
      obtain ⟨v, hv⟩ : ∃ v, Proofs.Ytmmcjjklmcfegaa.reg s.regs d.frm = v := ⟨_, rfl⟩
      rw [hu] at hr2 ⊢
      rw [hv] at hq2 ⊢
      refine ⟨fun e => ?_, fun e => by rw [e]⟩
      have hre : u.ref = v.ref := by have := congrArg V.ref e; rwa [turn_ref, turn_ref] at this
      cases hur : u.ref with
      | false =>
        rw [turn_no hur, turn_no (by rw [← hre]; exact hur)] at e
        exact e
      | true =>
        have hvr : v.ref = true := by rw [← hre]; exact hur
        rw [turn_yes hur, turn_yes hvr] at e
        have h1 := h.inj _ (hr2 hur) _ (hq2 hvr) (congrArg V.n e)
        obtain ⟨u1, u2⟩ := u
        obtain ⟨v1, v2⟩ := v
        simp only at hur hvr h1
        subst hur hvr h1
        rfl
    simp only [this]
  rw [if_neg e6, if_neg e6]
  refine ⟨?_, L, p, h⟩
  rw [hq1, turn_ref]
  cases hr : (Proofs.Ytmmcjjklmcfegaa.reg s.regs d.frm).ref with
  | true =>
    rw [turn_yes hr]
    simp only [if_true]
    rw [h.flds _ (hq2 hr), List.length_map]
  | false =>
    rw [turn_no hr]
    simp
end
end Go.Proofs.Ytmmcjjklmcfegaa

/- What two alike memories tell, and their graphs in the end; a memory and its own graph. Plain. -/
namespace Go.Proofs.Ytmmcjjklmcfegaa

theorem runs_cons {X : Type} (st : Sm X → Dd → Sm X × Ot) (s : Sm X) (d : Dd) (ds : List Dd) : runs st s (d :: ds) = ((runs st (st s d).1 ds).1, (st s d).2 :: (runs st (st s d).1 ds).2) := by
  have := runs_append st s [d] ds
  simpa [runs] using this
theorem sim_runs : ∀ (ds : List Dd) (s t : Sm Unit) (L : List Int) (p : Int → Int), SIm s t L p → InvI s → s.os.length + ds.length ≤ 900 →
    (runs iKd.step s ds).2 = (runs iKd.step t ds).2 ∧ InvI (runs iKd.step s ds).1 ∧ ∃ L' p', SIm (runs iKd.step s ds).1 (runs iKd.step t ds).1 L' p' := by
  intro ds
  induction ds with
  | nil => intro s t L p h hs _; exact ⟨rfl, hs, L, p, h⟩
  | cons d ds ih =>
    intro s t L p h hs hl
    simp only [List.length_cons] at hl
    obtain ⟨h1, L1, p1, h2⟩ := h.step hs d
    obtain ⟨h3, _, h5⟩ := hs.step (by omega) d
    obtain ⟨h6, h7, h8⟩ := ih _ _ L1 p1 h2 h3 (by omega)
    rw [runs_cons, runs_cons]
    exact ⟨by simp only [h1, h6], h7, h8⟩
theorem fieldsAt_gOf (regs : List V) (os : Os) (x : Int) : fieldsAt (gOf regs os) x = objAt os x := by
  unfold fieldsAt gOf objAt
  simp only
  rw [List.getD_eq_getElem?_getD, List.getElem?_map]
  cases h : os[x.toNat]? with
  | none => rfl
  | some c => rfl
theorem gOf_len (regs : List V) (os : Os) : (gOf regs os).objs.length = os.length := by simp [gOf]
theorem SIm.iso {s t : Sm Unit} {L : List Int} {p : Int → Int} (h : SIm s t L p) : Iso (gOf s.regs s.os) (gOf t.regs t.os) L p := by
  refine ⟨?_, h.inj, h.regs, ?_, ?_, ?_⟩
  · intro x hx; rw [gOf_len, gOf_len]; exact h.rng x hx
  · intro j hj
    obtain ⟨v, hv, rfl⟩ := List.mem_map.1 hj
    obtain ⟨h1, h2⟩ := List.mem_filter.1 hv
    exact h.regsL v h1 (by simpa using h2)
  · intro x hx
    rw [fieldsAt_gOf, fieldsAt_gOf]; exact h.flds x hx
  · intro x hx j hj
    rw [fieldsAt_gOf] at hj
    obtain ⟨v, hv, rfl⟩ := List.mem_map.1 hj
    obtain ⟨h1, h2⟩ := List.mem_filter.1 hv
    exact h.fldsL x hx v h1 (by simpa using h2)
theorem objAt_start (g : G) (x : Int) : objAt (startI g).os x = fieldsAt g x := by
  unfold objAt startI fieldsAt
  simp only
  rw [List.getElem?_map, List.getD_eq_getElem?_getD]
  cases h : g.objs[x.toNat]? with
  | none => rfl
  | some o => rfl
theorem firstR_turn (p : Int → Int) (l : List V) : firstR (l.map (turnV p)) = (firstR l).map (turnV p) := by
  unfold firstR
  rw [List.map_append, List.map_replicate, List.length_map]; rfl
theorem mem_firstR {l : List V} {v : V} (h : v ∈ firstR l) (hr : v.ref = true) : v ∈ l := by
  rcases List.mem_append.1 h with h1 | h1
  · exact h1
  · rw [List.eq_of_mem_replicate h1] at hr; cases hr
theorem sim_start {g h : G} {L : List Int} {p : Int → Int} (I : Iso g h L p) : SIm (startI g) (startI h) L p := by
  refine ⟨?_, I.inj, ?_, ?_, ?_, ?_⟩
  · intro x hx
    have := I.rng x hx
    show (0 ≤ x ∧ x < ((g.objs.map some).length : Int)) ∧ 0 ≤ p x ∧ p x < ((h.objs.map some).length : Int)
    simpa using this
  · show firstR h.roots = (firstR g.roots).map (turnV p)
    rw [I.roots]; exact firstR_turn p g.roots
  · intro v hv hr
    exact I.rootsL _ (mem_targets (mem_firstR hv hr) hr)
  · intro x hx; rw [objAt_start, objAt_start]; exact I.fields x hx
  · intro x hx v hv hr
    rw [objAt_start] at hv
    exact I.fieldsL x hx _ (mem_targets hv hr)
theorem InvI.rng {s : Sm Unit} (h : InvI s) : Rng (gOf s.regs s.os) := (h.fine.fits (by have := h.room; omega)).rng
/-- A memory and the graph that it tells in the end. -/
theorem sim_own {s : Sm Unit} (hs : InvI s) {c : G} (hc : CanonS (gOf s.regs s.os) c) : ∃ L p, SIm s (startI c) L p := by
  obtain ⟨l, dist, hF, rfl⟩ := hc
  have hfar := hF.farR hs.rng
  have I := iso_self hfar
  refine ⟨l, at_ l l.length, ?_⟩
  have h8 : (s.regs.map (turnV (at_ l l.length))).length = 8 := by rw [List.length_map]; exact hs.fine.regs8
  refine ⟨?_, I.inj, ?_, ?_, ?_, ?_⟩
  · intro x hx
    have := I.rng x hx
    rw [gOf_len] at this
    show (0 ≤ x ∧ x < (s.os.length : Int)) ∧ 0 ≤ _ ∧ _ < (((renum (gOf s.regs s.os) l).objs.map some).length : Int)
    rw [List.length_map]; exact this
  · show firstR (s.regs.map _) = _
    unfold firstR
    rw [h8]; simp
  · intro v hv hr
    exact I.rootsL _ (mem_targets hv hr)
  · intro x hx
    rw [objAt_start]
    have := I.fields x hx
    rwa [fieldsAt_gOf] at this
  · intro x hx v hv hr
    have := I.fieldsL x hx v.n
    rw [fieldsAt_gOf] at this
    exact this (mem_targets hv hr)
/-- What Play's graph is always: it may be, but for the number of its objects. -/
theorem canon_good {s : Sm Unit} (hs : InvI s) {c : G} (hc : CanonS (gOf s.regs s.os) c) : c.roots.length = 8 ∧ (c.objs.length ≤ 24 → Good c) := by
  obtain ⟨l, dist, hF, rfl⟩ := hc
  have hfar := hF.farR hs.rng
  have I := iso_self hfar
  have hr8 : (renum (gOf s.regs s.os) l).roots.length = 8 := by show (s.regs.map _).length = 8; rw [List.length_map]; exact hs.fine.regs8
  refine ⟨hr8, fun hn => ?_⟩
  have hflen : ∀ x, (objAt s.os x).length ≤ 4 := by
    intro x
    unfold objAt
    cases h : s.os[x.toNat]? with
    | none => simp
    | some o =>
      cases o with
      | none => simp
      | some l => exact hs.fine.flen _ l h
  have hnum : ∀ x v, v ∈ objAt s.os x → v.ref = false → -4611686018427387904 ≤ v.n ∧ v.n ≤ 4611686018427387903 := by
    intro x v hv hr
    unfold objAt at hv
    cases h : s.os[x.toNat]? with
    | none => rw [h] at hv; simp at hv
    | some o =>
      cases o with
      | none => rw [h] at hv; simp at hv
      | some l => rw [h] at hv; exact hs.fine.num _ l h v hv hr
  have hlen : (renum (gOf s.regs s.os) l).objs.length = l.length := by simp [renum]
  have hval : ∀ v : V, (v.ref = true → v.n ∈ l) → (v.ref = false → -4611686018427387904 ≤ v.n ∧ v.n ≤ 4611686018427387903) → badC (turnV (at_ l l.length) v) ((renum (gOf s.regs s.os) l).objs.length : Int) = 0 := by
    intro v h1 h2
    unfold badC
    rw [turn_ref]
    cases hr : v.ref with
    | true =>
      rw [turn_yes hr]
      have h3 := (I.rng v.n (h1 hr)).2
      simp only [if_true]
      rw [if_neg (by omega)]
    | false =>
      rw [turn_no hr]
      have h3 := h2 hr
      simp only [Bool.false_eq_true, if_false]
      rw [if_neg (by omega)]
  refine ⟨hn, by rw [hr8]; exact Nat.le_refl _, ?_, ?_⟩
  · intro o ho
    obtain ⟨x, _, rfl⟩ := List.mem_map.1 ho
    rw [List.length_map, fieldsAt_gOf]; exact hflen x
  · intro v hv
    rcases List.mem_append.1 hv with h1 | h1
    · obtain ⟨u, hu, rfl⟩ := List.mem_map.1 (show v ∈ s.regs.map _ from h1)
      exact hval u (fun hr => I.rootsL _ (mem_targets hu hr)) (hs.fine.regs u hu).2
    · obtain ⟨o, ho, hvo⟩ := List.mem_flatten.1 h1
      obtain ⟨x, hx, rfl⟩ := List.mem_map.1 ho
      obtain ⟨u, hu, rfl⟩ := List.mem_map.1 hvo
      have hu2 := hu
      rw [fieldsAt_gOf] at hu2
      exact hval u (fun hr => I.fieldsL x hx _ (mem_targets hu hr)) (hnum x u hu2)
end Go.Proofs.Ytmmcjjklmcfegaa
