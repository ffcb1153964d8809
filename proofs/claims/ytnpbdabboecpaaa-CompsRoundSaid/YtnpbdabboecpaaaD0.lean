/- Who keeps whom: the search in depth. Plain. -/
import Derived.Test.YtnpbdabboecpaaaPk
import Derived.Test.YtnpbdabboecpaaaIa
namespace Go.Proofs.Ytnpbdabboecpaaa

/-- Is an object marked? -/
def sk (K : List Bool) (i : Int) : Bool := decide (0 ≤ i) && K.getD i.toNat false
theorem sk_set (K : List Bool) {i : Nat} (hi : i < K.length) (j : Int) : sk (K.set i true) j = (sk K j || decide (j = (i : Int))) := by
  unfold sk
  rw [List.getD_eq_getElem?_getD, List.getD_eq_getElem?_getD, List.getElem?_set]
  by_cases h0 : 0 ≤ j
  · by_cases h : i = j.toNat
    · have h2 : j = (i : Int) := by omega
      rw [if_pos h, if_pos (h ▸ hi)]
      simp [h2]
    · have h2 : ¬ j = (i : Int) := by omega
      rw [if_neg h]; simp [h2]
  · have h2 : ¬ j = (i : Int) := by omega
    simp [h0, h2]
/-- What can be come to without what is barred. -/
inductive Av (g : G) (bad : Int → Prop) : Int → Prop
  | root {x : V} : x ∈ g.roots → x.ref = true → ¬ bad x.n → Av g bad x.n
  | step {i : Int} {x : V} : Av g bad i → x ∈ fieldsAt g i → x.ref = true → ¬ bad x.n → Av g bad x.n
theorem Av.mono {g : G} {p q : Int → Prop} (h : ∀ x, q x → p x) {i : Int} (ha : Av g p i) : Av g q i := by
  induction ha with
  | root h1 h2 h3 => exact .root h1 h2 fun hq => h3 (h _ hq)
  | step _ h2 h3 h4 ih => exact .step ih h2 h3 fun hq => h4 (h _ hq)
theorem Av.not {g : G} {p : Int → Prop} {i : Int} (ha : Av g p i) : ¬ p i := by
  cases ha with
  | root _ _ h => exact h
  | step _ _ _ h => exact h
def Rch (g : G) (i : Int) : Prop := Av g (fun _ => False) i
theorem mem_targets_iff {l : List V} {t : Int} : t ∈ targets l ↔ ∃ x ∈ l, x.ref = true ∧ x.n = t := by
  unfold targets
  constructor
  · intro h
    obtain ⟨x, hx, rfl⟩ := List.mem_map.1 h
    obtain ⟨h1, h2⟩ := List.mem_filter.1 hx
    exact ⟨x, h1, h2, rfl⟩
  · rintro ⟨x, h1, h2, rfl⟩
    exact List.mem_map.2 ⟨x, List.mem_filter.2 ⟨h1, h2⟩, rfl⟩
/-- What a walk from some targets on does: the objects that it finds, each behind those to which it leads first. -/
structure PostS (g : G) (K K' : List Bool) (new ts : List Int) : Prop where
  len : K'.length = K.length
  mem : ∀ i, sk K' i = true ↔ sk K i = true ∨ i ∈ new
  fresh : ∀ i ∈ new, sk K i = false
  nodup : new.Nodup
  has : ∀ t ∈ ts, sk K' t = true
  closed : ∀ i ∈ new, ∀ t ∈ targets (fieldsAt g i), sk K' t = true
  least : ∀ S : Int → Prop, (∀ i t, S i → t ∈ targets (fieldsAt g i) → S t) → (∀ t ∈ ts, S t) → ∀ i ∈ new, S i
  order : ∀ (a b : List Int) (i : Int), new = a ++ i :: b → i ∈ ts ∨ ∃ j ∈ b, i ∈ targets (fieldsAt g j)
theorem PostS.nil (g : G) (K : List Bool) : PostS g K K [] [] :=
  ⟨rfl, by simp, by simp, by simp, by simp, by simp, fun _ _ _ i hi => by simp at hi, fun a b i h => by simp at h⟩
theorem PostS.skip {g : G} {K K' : List Bool} {new ts : List Int} (h : PostS g K K' new ts) {t : Int} (ht : sk K' t = true) : PostS g K K' new (ts ++ [t]) := by
  refine ⟨h.len, h.mem, h.fresh, h.nodup, ?_, h.closed, fun S h1 h2 => h.least S h1 fun t ht => h2 t (List.mem_append_left _ ht), ?_⟩
  · intro u hu
    rcases List.mem_append.1 hu with hu | hu
    · exact h.has u hu
    · rw [List.mem_singleton.1 hu]; exact ht
  · intro a b i he
    rcases h.order a b i he with h1 | h1
    · exact .inl (List.mem_append_left _ h1)
    · exact .inr h1
theorem PostS.take {g : G} {K K1 K3 : List Bool} {new new2 ts : List Int} (h : PostS g K K1 new ts) {i : Nat} (hi : K1[i]? = some false) (h2 : PostS g (K1.set i true) K3 new2 (targets (fieldsAt g (i : Int)))) :
    PostS g K K3 (new ++ (new2 ++ [(i : Int)])) (ts ++ [(i : Int)]) := by
  have hl := (List.getElem?_eq_some_iff.1 hi).1
  have hset := sk_set K1 hl
  have hi1 : sk K1 (i : Int) = false := by
    unfold sk
    rw [Int.toNat_natCast, List.getD_eq_getElem?_getD, hi]; simp
  have hi2 : sk (K1.set i true) (i : Int) = true := by rw [hset]; simp
  have hK : sk K (i : Int) = false := by
    cases hk : sk K (i : Int) with
    | false => rfl
    | true => rw [(h.mem _).2 (.inl hk)] at hi1; cases hi1
  have hin : (i : Int) ∉ new := fun hm => by rw [(h.mem _).2 (.inr hm)] at hi1; cases hi1
  have hin2 : (i : Int) ∉ new2 := fun hm => by rw [h2.fresh _ hm] at hi2; cases hi2
  have hdis : ∀ x ∈ new, x ∉ new2 := by
    intro x hx hx2
    have h3 := h2.fresh x hx2
    rw [hset, (h.mem x).2 (.inr hx)] at h3
    cases h3
  have hmem : ∀ j, sk K3 j = true ↔ sk K j = true ∨ j ∈ new ++ (new2 ++ [(i : Int)]) := by
    intro j
    rw [h2.mem, hset]
    simp only [Bool.or_eq_true, decide_eq_true_eq, List.mem_append, List.mem_singleton]
    rw [h.mem]
    constructor
    · rintro ((( h1 | h1) | h1) | h1)
      · exact .inl h1
      · exact .inr (.inl h1)
      · exact .inr (.inr (.inr h1))
      · exact .inr (.inr (.inl h1))
    · rintro (h1 | h1 | h1 | h1)
      · exact .inl (.inl (.inl h1))
      · exact .inl (.inl (.inr h1))
      · exact .inr h1
      · exact .inl (.inr h1)
  have up : ∀ j, sk K1 j = true → sk K3 j = true := fun j hj => (h2.mem j).2 (.inl (by rw [hset, hj]; rfl))
  refine ⟨by rw [h2.len, List.length_set, h.len], hmem, ?_, ?_, ?_, ?_, ?_, ?_⟩
  · intro x hx
    rcases List.mem_append.1 hx with hx | hx
    · exact h.fresh x hx
    · rcases List.mem_append.1 hx with hx | hx
      · have h3 := h2.fresh x hx
        rw [hset] at h3
        cases hk : sk K x with
        | false => rfl
        | true => rw [(h.mem x).2 (.inl hk)] at h3; cases h3
      · rw [List.mem_singleton.1 hx]; exact hK
  · rw [List.nodup_append]
    refine ⟨h.nodup, ?_, ?_⟩
    · rw [List.nodup_append]
      refine ⟨h2.nodup, by simp, fun a ha b hb => ?_⟩
      rw [List.mem_singleton.1 hb]; rintro rfl; exact hin2 ha
    · intro a ha b hb
      rintro rfl
      rcases List.mem_append.1 hb with hb | hb
      · exact hdis a ha hb
      · rw [List.mem_singleton.1 hb] at ha; exact hin ha
  · intro t ht
    rcases List.mem_append.1 ht with ht | ht
    · exact up t (h.has t ht)
    · rw [List.mem_singleton.1 ht]; exact (h2.mem _).2 (.inl hi2)
  · intro x hx t ht
    rcases List.mem_append.1 hx with hx | hx
    · exact up t (h.closed x hx t ht)
    · rcases List.mem_append.1 hx with hx | hx
      · exact h2.closed x hx t ht
      · rw [List.mem_singleton.1 hx] at ht; exact h2.has t ht
  · intro S hS hts x hx
    have hSi : S (i : Int) := hts _ (List.mem_append_right _ (List.mem_singleton.2 rfl))
    rcases List.mem_append.1 hx with hx | hx
    · exact h.least S hS (fun t ht => hts t (List.mem_append_left _ ht)) x hx
    · rcases List.mem_append.1 hx with hx | hx
      · exact h2.least S hS (fun t ht => hS _ t hSi ht) x hx
      · rw [List.mem_singleton.1 hx]; exact hSi
  · intro a b x he
    rw [List.append_eq_append_iff] at he
    rcases he with ⟨c, h3, h4⟩ | ⟨c, h3, h4⟩
    · -- x stands in what is found behind new
      rw [List.append_eq_append_iff] at h4
      rcases h4 with ⟨d, h5, h6⟩ | ⟨d, h5, h6⟩
      · cases d with
        | nil =>
          simp only [List.nil_append, List.cons.injEq] at h6
          exact .inl (List.mem_append_right _ (List.mem_singleton.2 h6.1.symm))
        | cons y d =>
          simp at h6
      · cases d with
        | nil =>
          simp only [List.nil_append] at h6
          simp only [List.cons.injEq] at h6
          exact .inl (List.mem_append_right _ (List.mem_singleton.2 h6.1))
        | cons y d =>
          simp only [List.cons_append, List.cons.injEq] at h6
          obtain ⟨rfl, rfl⟩ := h6
          rcases h2.order c d x h5 with h7 | ⟨j, hj, h7⟩
          · exact .inr ⟨(i : Int), List.mem_append_right _ (List.mem_singleton.2 rfl), h7⟩
          · exact .inr ⟨j, List.mem_append_left _ hj, h7⟩
    · cases c with
      | nil =>
        simp only [List.nil_append] at h4
        cases new2 with
        | nil =>
          simp only [List.nil_append, List.cons.injEq] at h4
          exact .inl (List.mem_append_right _ (List.mem_singleton.2 h4.1))
        | cons y new2 =>
          simp only [List.cons_append, List.cons.injEq] at h4
          obtain ⟨rfl, rfl⟩ := h4
          rcases h2.order [] new2 x rfl with h7 | ⟨j, hj, h7⟩
          · exact .inr ⟨(i : Int), List.mem_append_right _ (List.mem_singleton.2 rfl), h7⟩
          · exact .inr ⟨j, List.mem_append_left _ hj, h7⟩
      | cons y c =>
        simp only [List.cons_append, List.cons.injEq] at h4
        obtain ⟨rfl, rfl⟩ := h4
        rcases h.order a c x h3 with h7 | ⟨j, hj, h7⟩
        · exact .inl (List.mem_append_left _ h7)
        · exact .inr ⟨j, List.mem_append_left _ hj, h7⟩
/-- The whole search. -/
theorem PostS.whole {g : G} {K : List Bool} {new : List Int} (h : PostS g (List.replicate g.objs.length false) K new (targets g.roots)) : ∀ i, i ∈ new ↔ Rch g i := by
  have hz : ∀ i, sk (List.replicate g.objs.length false) i = false := by
    intro i
    unfold sk
    rw [List.getD_eq_getElem?_getD, List.getElem?_replicate]
    split <;> simp
  have key : ∀ i, sk K i = true ↔ i ∈ new := fun i => by rw [h.mem, hz]; simp
  intro i
  constructor
  · intro hi
    refine h.least (Rch g) ?_ ?_ i hi
    · intro i t hr ht
      obtain ⟨x, hx, hxr, rfl⟩ := mem_targets_iff.1 ht
      exact .step hr hx hxr (fun h => h)
    · intro t ht
      obtain ⟨x, hx, hxr, rfl⟩ := mem_targets_iff.1 ht
      exact .root hx hxr (fun h => h)
  · intro hr
    induction hr with
    | root h1 h2 _ => exact (key _).1 (h.has _ (mem_targets_iff.2 ⟨_, h1, h2, rfl⟩))
    | step _ h2 h3 _ ih => exact (key _).1 (h.closed _ ih _ (mem_targets_iff.2 ⟨_, h2, h3, rfl⟩))
end Go.Proofs.Ytnpbdabboecpaaa
