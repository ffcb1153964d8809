/- The order in which objects are found, plainly. -/
import Derived.Test.YtigdpdndnghldaaPk
namespace Go.Proofs.Ytigdpdndnghldaa

def tk (F : List Int) (i : Int) : List Int := if i ∈ F then F else F ++ [i]
def tks (F l : List Int) : List Int := l.foldl tk F
theorem tk_old {F : List Int} {i : Int} (h : i ∈ F) : tk F i = F := if_pos h
theorem tk_new {F : List Int} {i : Int} (h : i ∉ F) : tk F i = F ++ [i] := if_neg h
theorem tk_prefix (F : List Int) (i : Int) : F <+: tk F i := by
  unfold tk; split
  · exact List.prefix_refl _
  · exact List.prefix_append _ _
theorem tks_prefix : ∀ (l F : List Int), F <+: tks F l
  | [], _ => List.prefix_refl _
  | i :: l, F => (tk_prefix F i).trans (tks_prefix l (tk F i))
theorem tks_append (F l m : List Int) : tks F (l ++ m) = tks (tks F l) m := List.foldl_append
theorem tks_snoc (F l : List Int) (i : Int) : tks F (l ++ [i]) = tk (tks F l) i := by rw [tks_append]; rfl
theorem mem_tk {F : List Int} {i x : Int} : x ∈ tk F i ↔ x ∈ F ∨ x = i := by
  unfold tk; split
  · rename_i h
    constructor
    · exact .inl
    · rintro (h1 | rfl)
      · exact h1
      · exact h
  · simp
theorem mem_tks : ∀ (l F : List Int) (x : Int), x ∈ tks F l ↔ x ∈ F ∨ x ∈ l
  | [], F, x => by simp [tks]
  | i :: l, F, x => by
    rw [show tks F (i :: l) = tks (tk F i) l from rfl, mem_tks l (tk F i) x, mem_tk, List.mem_cons, or_assoc]
theorem tk_nodup {F : List Int} (h : F.Nodup) (i : Int) : (tk F i).Nodup := by
  unfold tk; split
  · exact h
  · rename_i hn
    rw [List.nodup_append]
    refine ⟨h, by simp, ?_⟩
    intro a ha b hb e
    simp at hb; subst hb e; exact hn ha
theorem tks_nodup : ∀ (l F : List Int), F.Nodup → (tks F l).Nodup
  | [], _, h => h
  | i :: l, F, h => tks_nodup l (tk F i) (tk_nodup h i)

def ordAt (g : G) : Nat → List Int
  | 0 => tks [] (targets g.roots)
  | k + 1 => tks (ordAt g k) (targets (fieldsAt g ((ordAt g k).getD k 0)))
theorem ordAt_nodup (g : G) : ∀ k, (ordAt g k).Nodup
  | 0 => tks_nodup _ _ (by simp)
  | k + 1 => tks_nodup _ _ (ordAt_nodup g k)
theorem ordAt_prefix (g : G) (j : Nat) : ∀ k, j ≤ k → ordAt g j <+: ordAt g k
  | 0, h => by obtain rfl : j = 0 := by omega
               exact List.prefix_refl _
  | k + 1, h => by
    rcases Nat.lt_or_ge k j with h1 | h1
    · obtain rfl : j = k + 1 := by omega
      exact List.prefix_refl _
    · exact (ordAt_prefix g j k h1).trans (tks_prefix _ _)
/-- References are to objects that there are. -/
def Rng (g : G) : Prop := ∀ v ∈ allV g, v.ref = true → 0 ≤ v.n ∧ v.n < (g.objs.length : Int)
theorem Rng.target {g : G} (h : Rng g) {l : List V} (hl : ∀ x ∈ l, x ∈ allV g) {i : Int} (hi : i ∈ targets l) : 0 ≤ i ∧ i < (g.objs.length : Int) := by
  obtain ⟨v, hv, rfl⟩ := List.mem_map.1 hi
  obtain ⟨h1, h2⟩ := List.mem_filter.1 hv
  exact h v (hl v h1) (by simpa using h2)
theorem roots_in (g : G) : ∀ x ∈ g.roots, x ∈ allV g := fun _ hx => List.mem_append_left _ hx
theorem fields_in (g : G) (i : Int) : ∀ x ∈ fieldsAt g i, x ∈ allV g := by
  intro x hx
  unfold fieldsAt at hx
  rw [List.getD_eq_getElem?_getD] at hx
  cases h : g.objs[i.toNat]? with
  | none => rw [h] at hx; simp at hx
  | some o => rw [h] at hx; exact List.mem_append_right _ (List.mem_flatten.2 ⟨o, List.mem_of_getElem? h, hx⟩)
theorem ordAt_rng {g : G} (h : Rng g) : ∀ k, ∀ x ∈ ordAt g k, 0 ≤ x ∧ x < (g.objs.length : Int)
  | 0, x, hx => by
    rcases (mem_tks _ _ _).1 hx with h1 | h1
    · cases h1
    · exact h.target (roots_in g) h1
  | k + 1, x, hx => by
    rcases (mem_tks _ _ _).1 hx with h1 | h1
    · exact ordAt_rng h k x h1
    · exact h.target (fields_in g _) h1
def upTo (n : Nat) : List Int := (List.range n).map fun (i : Nat) => (i : Int)
theorem upTo_len (n : Nat) : (upTo n).length = n := by simp [upTo]
theorem mem_upTo {n : Nat} {x : Int} : x ∈ upTo n ↔ 0 ≤ x ∧ x < (n : Int) := by
  unfold upTo
  rw [List.mem_map]
  constructor
  · rintro ⟨i, hi, rfl⟩; have := List.mem_range.1 hi; omega
  · intro h; exact ⟨x.toNat, List.mem_range.2 (by omega), by omega⟩
theorem ordAt_len {g : G} (h : Rng g) (k : Nat) : (ordAt g k).length ≤ g.objs.length := by
  have := nodup_sub_len (ordAt g k) (upTo g.objs.length) (ordAt_nodup g k) (fun x hx => mem_upTo.2 (ordAt_rng h k x hx))
  rwa [upTo_len] at this

/-- F is what is found, in order. -/
def OrdS (g : G) (F : List Int) : Prop := ordAt g F.length = F ∧ ∀ j, j < F.length → j < (ordAt g j).length
theorem ord_exists {g : G} (h : Rng g) : ∃ F, OrdS g F := by
  have key : ∀ (fuel k : Nat), g.objs.length ≤ k + fuel → (∀ j, j < k → j < (ordAt g j).length) → ∃ K, (∀ j, j < K → j < (ordAt g j).length) ∧ (ordAt g K).length ≤ K := by
    intro fuel
    induction fuel with
    | zero => intro k hk hj; exact ⟨k, hj, by have := ordAt_len h k; omega⟩
    | succ f ih =>
      intro k hk hj
      by_cases hle : (ordAt g k).length ≤ k
      · exact ⟨k, hj, hle⟩
      · refine ih (k + 1) (by omega) ?_
        intro j hj2
        rcases Nat.lt_or_ge j k with h1 | h1
        · exact hj j h1
        · obtain rfl : j = k := by omega
          omega
  obtain ⟨K, hK, hle⟩ := key g.objs.length 0 (by omega) (fun j hj => absurd hj (by omega))
  have hlen : (ordAt g K).length = K := by
    cases K with
    | zero => omega
    | succ k =>
      have h1 := hK k (by omega)
      have h2 := (ordAt_prefix g k (k + 1) (by omega)).length_le
      omega
  exact ⟨ordAt g K, by rw [hlen], by rw [hlen]; exact hK⟩
theorem OrdS.unique {g : G} {F E : List Int} (hF : OrdS g F) (hE : OrdS g E) : F = E := by
  rcases Nat.lt_trichotomy F.length E.length with h | h | h
  · have := hE.2 _ h; rw [hF.1] at this; omega
  · rw [← hF.1, ← hE.1, h]
  · have := hF.2 _ h; rw [hE.1] at this; omega
theorem OrdS.nodup {g : G} {F : List Int} (h : OrdS g F) : F.Nodup := by rw [← h.1]; exact ordAt_nodup g _
theorem OrdS.rng {g : G} {F : List Int} (h : OrdS g F) (hr : Rng g) : ∀ x ∈ F, 0 ≤ x ∧ x < (g.objs.length : Int) := by
  intro x hx; rw [← h.1] at hx; exact ordAt_rng hr _ x hx
theorem OrdS.pre {g : G} {F : List Int} (h : OrdS g F) {k : Nat} (hk : k ≤ F.length) : ordAt g k <+: F := by
  have := ordAt_prefix g k F.length hk
  rwa [h.1] at this
theorem prefix_get {α : Type} {l m : List α} (h : l <+: m) {k : Nat} (hk : k < l.length) : m[k]? = l[k]? := by
  obtain ⟨t, rfl⟩ := h
  rw [List.getElem?_append_left hk]
theorem OrdS.at_ {g : G} {F : List Int} (h : OrdS g F) {k : Nat} (hk : k < F.length) : (ordAt g k).getD k 0 = F.getD k 0 := by
  rw [List.getD_eq_getElem?_getD, List.getD_eq_getElem?_getD, prefix_get (h.pre (Nat.le_of_lt hk)) (h.2 k hk)]
theorem OrdS.roots {g : G} {F : List Int} (h : OrdS g F) : ∀ j ∈ targets g.roots, j ∈ F := by
  intro j hj
  exact (h.pre (Nat.zero_le _)).subset ((mem_tks _ _ _).2 (.inr hj))
theorem OrdS.closed {g : G} {F : List Int} (h : OrdS g F) {x : Int} (hx : x ∈ F) : ∀ j ∈ targets (fieldsAt g x), j ∈ F := by
  intro j hj
  obtain ⟨k, hk⟩ := List.getElem?_of_mem hx
  have hkl := (List.getElem?_eq_some_iff.1 hk).1
  refine (h.pre (show k + 1 ≤ F.length by omega)).subset ((mem_tks _ _ _).2 (.inr ?_))
  rw [h.at_ hkl, List.getD_eq_getElem?_getD, hk]
  exact hj
theorem OrdS.least {g : G} {F : List Int} (h : OrdS g F) {P : Int → Prop} (h0 : ∀ j ∈ targets g.roots, P j) (h1 : ∀ x, P x → ∀ j ∈ targets (fieldsAt g x), P j) : ∀ x ∈ F, P x := by
  have key : ∀ k, k ≤ F.length → ∀ x ∈ ordAt g k, P x := by
    intro k
    induction k with
    | zero =>
      intro _ x hx
      rcases (mem_tks _ _ _).1 hx with h2 | h2
      · cases h2
      · exact h0 x h2
    | succ k ih =>
      intro hk x hx
      rcases (mem_tks _ _ _).1 hx with h2 | h2
      · exact ih (by omega) x h2
      · have hlt := h.2 k (by omega)
        refine h1 _ (ih (by omega) _ ?_) x h2
        rw [List.getD_eq_getElem?_getD, List.getElem?_eq_getElem hlt]
        exact List.getElem_mem hlt
  intro x hx
  rw [← h.1] at hx
  exact key _ (Nat.le_refl _) x hx

/-! ### Relabelled -/
theorem tk_map {L F : List Int} {p : Int → Int} (hinj : ∀ x ∈ L, ∀ y ∈ L, p x = p y → x = y) (hF : ∀ x ∈ F, x ∈ L) {i : Int} (hi : i ∈ L) : tk (F.map p) (p i) = (tk F i).map p := by
  by_cases h : i ∈ F
  · rw [tk_old h, tk_old (List.mem_map.2 ⟨i, h, rfl⟩)]
  · rw [tk_new h, tk_new, List.map_append, List.map_singleton]
    intro h2
    obtain ⟨y, hy, e⟩ := List.mem_map.1 h2
    exact h (hinj y (hF y hy) i hi e ▸ hy)
theorem tks_map {L : List Int} {p : Int → Int} (hinj : ∀ x ∈ L, ∀ y ∈ L, p x = p y → x = y) : ∀ (l F : List Int), (∀ x ∈ F, x ∈ L) → (∀ x ∈ l, x ∈ L) → tks (F.map p) (l.map p) = (tks F l).map p
  | [], _, _, _ => rfl
  | i :: l, F, hF, hl => by
    rw [List.map_cons]
    show tks (tk (F.map p) (p i)) (l.map p) = (tks (tk F i) l).map p
    rw [tk_map hinj hF (hl i List.mem_cons_self)]
    refine tks_map hinj l (tk F i) ?_ (fun x hx => hl x (List.mem_cons_of_mem _ hx))
    intro x hx
    rcases mem_tk.1 hx with h | rfl
    · exact hF x h
    · exact hl x List.mem_cons_self
theorem iso_ord {g h : G} {L : List Int} {p : Int → Int} (I : Iso g h L p) {F : List Int} (hF : OrdS g F) : OrdS h (F.map p) := by
  have key : ∀ k, k ≤ F.length → ordAt h k = (ordAt g k).map p ∧ ∀ x ∈ ordAt g k, x ∈ L := by
    intro k
    induction k with
    | zero =>
      intro _
      refine ⟨?_, ?_⟩
      · unfold ordAt
        rw [I.roots, targets_map]
        have := tks_map I.inj (targets g.roots) [] (by simp) I.rootsL
        simpa using this
      · intro x hx
        rcases (mem_tks _ _ _).1 hx with h2 | h2
        · cases h2
        · exact I.rootsL x h2
    | succ k ih =>
      intro hk
      obtain ⟨e, hL⟩ := ih (by omega)
      have hlt := hF.2 k (by omega)
      obtain ⟨x, hx⟩ : ∃ x, (ordAt g k)[k]? = some x := ⟨_, List.getElem?_eq_getElem hlt⟩
      have hxL := hL x (List.mem_of_getElem? hx)
      have g1 : (ordAt g k).getD k 0 = x := by rw [List.getD_eq_getElem?_getD, hx]; rfl
      have g2 : (ordAt h k).getD k 0 = p x := by rw [e, List.getD_eq_getElem?_getD, List.getElem?_map, hx]; rfl
      refine ⟨?_, ?_⟩
      · show tks (ordAt h k) (targets (fieldsAt h ((ordAt h k).getD k 0))) = (tks (ordAt g k) (targets (fieldsAt g ((ordAt g k).getD k 0)))).map p
        rw [g1, g2, I.fields x hxL, targets_map, e]
        exact tks_map I.inj _ _ hL (I.fieldsL x hxL)
      · intro y hy
        rcases (mem_tks _ _ _).1 hy with h2 | h2
        · exact hL y h2
        · rw [g1] at h2; exact I.fieldsL x hxL y h2
  refine ⟨?_, ?_⟩
  · rw [List.length_map, (key _ (Nat.le_refl _)).1, hF.1]
  · intro j hj
    rw [List.length_map] at hj
    rw [(key j (by omega)).1, List.length_map]; exact hF.2 j hj
theorem plc_at {F : List Int} (hn : F.Nodup) {k : Nat} {x : Int} (h : F[k]? = some x) : plc F x 0 = k := by
  rw [plc_get F x 0 k h ?_, Nat.zero_add]
  intro j hj e
  have hjl := (List.getElem?_eq_some_iff.1 e).1
  have hkl := (List.getElem?_eq_some_iff.1 h).1
  have h1 := (List.getElem?_eq_some_iff.1 e).2
  have h2 := (List.getElem?_eq_some_iff.1 h).2
  have := (List.nodup_iff_pairwise_ne.1 hn)
  exact List.pairwise_iff_getElem.1 this j k hjl hkl hj (h1.trans h2.symm)
theorem plc_map {F : List Int} (hn : F.Nodup) : F.map (fun y => plc F y 0) = upTo F.length := by
  refine List.ext_getElem? fun k => ?_
  rw [List.getElem?_map]
  by_cases hk : k < F.length
  · obtain ⟨x, hx⟩ : ∃ x, F[k]? = some x := ⟨_, List.getElem?_eq_getElem hk⟩
    rw [hx, Option.map_some, plc_at hn hx]
    simp [upTo, hk]
  · rw [List.getElem?_eq_none (by omega), List.getElem?_eq_none (by rw [upTo_len]; omega)]; rfl
theorem iso_plc {g : G} {F : List Int} (hr : Rng g) (h : OrdS g F) : Iso g (renumP g F (fun y => plc F y 0)) F (fun y => plc F y 0) := by
  have hat : ∀ x ∈ F, ∃ k : Nat, F[k]? = some x ∧ plc F x 0 = k := by
    intro x hx
    obtain ⟨k, hk⟩ := List.getElem?_of_mem hx
    exact ⟨k, hk, plc_at h.nodup hk⟩
  refine ⟨?_, ?_, rfl, h.roots, ?_, fun x hx => h.closed hx⟩
  · intro x hx
    obtain ⟨k, hk, e⟩ := hat x hx
    have hkl := (List.getElem?_eq_some_iff.1 hk).1
    refine ⟨h.rng hr x hx, ?_⟩
    simp only [e, renumP, List.length_map]; omega
  · intro x hx y hy e
    obtain ⟨k, hk, e1⟩ := hat x hx
    obtain ⟨j, hj, e2⟩ := hat y hy
    simp only [e1, e2] at e
    obtain rfl : k = j := by omega
    rw [hk] at hj; exact Option.some.inj hj
  · intro x hx
    obtain ⟨k, hk, e⟩ := hat x hx
    show fieldsAt _ (plc F x 0) = _
    rw [e]
    unfold fieldsAt renumP
    rw [List.getD_eq_getElem?_getD, Int.toNat_natCast, List.getElem?_map, hk]
    rfl
/-- What was renumbered as found is found as it is numbered. -/
theorem ord_twice {g : G} {F : List Int} (hr : Rng g) (h : OrdS g F) : OrdS (renumP g F (fun y => plc F y 0)) (upTo F.length) := by
  have := iso_ord (iso_plc hr h) h
  rwa [plc_map h.nodup] at this
/-- A graph of moderate size. -/
structure Fits (g : G) : Prop where
  objs : g.objs.length ≤ 1000
  roots : g.roots.length ≤ 1000
  fields : ∀ o ∈ g.objs, o.length ≤ 1000
  rng : Rng g
  vals : ∀ v ∈ allV g, i64ok v.n
theorem Good.fits {g : G} (h : Good g) : Fits g := by
  have hv : ∀ v ∈ allV g, (v.ref = true → 0 ≤ v.n ∧ v.n < (g.objs.length : Int)) ∧ i64ok v.n := by
    intro v hv
    have h1 := h.vals v hv
    have h2 := h.objs
    unfold badC at h1
    unfold i64ok
    cases hr : v.ref with
    | true =>
      rw [if_pos hr] at h1
      by_cases hc : v.n < 0 ∨ (g.objs.length : Int) ≤ v.n
      · rw [if_pos hc] at h1; cases h1
      · exact ⟨fun _ => by omega, by omega⟩
    | false =>
      rw [if_neg (by rw [hr]; decide)] at h1
      by_cases hc : v.n < -4611686018427387904 ∨ 4611686018427387903 < v.n
      · rw [if_pos hc] at h1; cases h1
      · exact ⟨fun h => (by cases h), by omega⟩
  exact ⟨by have := h.objs; omega, by have := h.roots; omega, fun o ho => by have := h.fields o ho; omega, fun v hm => (hv v hm).1, fun v hm => (hv v hm).2⟩
end Go.Proofs.Ytigdpdndnghldaa
