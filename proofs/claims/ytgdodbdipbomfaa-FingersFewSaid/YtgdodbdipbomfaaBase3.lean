/- Texts Ia Pk Bm Rz F0 Gr Mq Mz Cl in one. -/
import Derived.Test.YtgdodbdipbomfaaBase1
import Derived.RangeFuncNested
import Derived.RangeFuncBound
import Derived.RangeFuncCalls
import Derived.RangeFuncLeaves
import Derived.RangeFuncBox
import Derived.Shelf.Abstract
import Derived.Shelf.RegionOpen
import Derived.OwnWalkIn
import Derived.TacticsInMore
import Derived.LoopNIn
import Derived.LoopIn
import Derived.Test.YtgdodbdipbomfaaRows
import Derived.Maps.Own
import Derived.Maps.OwnOps
import Derived.Maps.OwnSet
import Derived.Maps.Views
import Derived.WalkArith
/- Targets as data; what iterators' contracts lean on. -/
namespace Go.Proofs.Ytgdodbdipbomfaa
open Go.RowKit Go.Shelf

attribute [local go_sem] Oper.semAt_some

/-- The objects to which references go, in order. -/
def targets (l : List V) : List Int := (l.filter (·.ref)).map (·.n)
theorem targets_succ {l : List V} {k : Nat} {x : V} (h : l.take (k + 1) = l.take k ++ [x]) : targets (l.take (k + 1)) = targets (l.take k) ++ if x.ref then [x.n] else [] := by
  rw [h]; unfold targets; rw [List.filter_append, List.map_append]
  cases hx : x.ref <;> simp [hx]
theorem targets_prefix (l : List V) (k : Nat) : targets (l.take k) <+: targets l :=
  List.IsPrefix.map _ (List.IsPrefix.filter _ (List.take_prefix k l))
/-- One of the targets. -/
abbrev Tg (l : List V) := { x : Int // x ∈ targets l }
theorem mem_targets {l : List V} {x : V} (h : x ∈ l) (hr : x.ref = true) : x.n ∈ targets l := by
  unfold targets; exact List.mem_map.2 ⟨x, List.mem_filter.2 ⟨h, hr⟩, rfl⟩

end Go.Proofs.Ytgdodbdipbomfaa

/- Graphs relabelled, as data; places in lists. Plain. -/
namespace Go.Proofs.Ytgdodbdipbomfaa

def fieldsAt (g : G) (i : Int) : List V := g.objs.getD i.toNat []
def turnV (p : Int → Int) (v : V) : V := if v.ref then ⟨true, p v.n⟩ else v
/-- The first place of a number in a list, counted from o; 0: none. -/
def plc : List Int → Int → Nat → Int
  | [], _, _ => 0
  | x :: xs, y, o => if x = y then o else plc xs y (o + 1)
theorem plc_rng : ∀ (l : List Int) (y : Int) (o : Nat), 0 ≤ plc l y o ∧ plc l y o ≤ o + l.length := by
  intro l
  induction l with
  | nil => intro y o; simp only [plc, List.length_nil]; omega
  | cons x xs ih =>
    intro y o
    unfold plc
    split
    · simp; omega
    · have := ih y (o + 1); simp; omega
theorem plc_get : ∀ (l : List Int) (y : Int) (o i : Nat), l[i]? = some y → (∀ j, j < i → l[j]? ≠ some y) → plc l y o = ((o + i : Nat) : Int) := by
  intro l
  induction l with
  | nil => intro y o i h; simp at h
  | cons x xs ih =>
    intro y o i h hf
    unfold plc
    cases i with
    | zero => simp at h; subst h; simp
    | succ i =>
      have hx : x ≠ y := by intro e; exact hf 0 (by omega) (by simp [e])
      rw [if_neg hx, ih y (o + 1) i (by simpa using h) (fun j hj => by have := hf (j + 1) (by omega); simpa using this)]
      congr 1; omega
theorem plc_mem : ∀ (l : List Int) (y : Int) (o : Nat), y ∈ l → ∃ i, l[i]? = some y ∧ plc l y o = ((o + i : Nat) : Int)
  | [], y, o, h => by cases h
  | x :: xs, y, o, h => by
    unfold plc
    by_cases e : x = y
    · subst e; exact ⟨0, by simp, by simp⟩
    · rw [if_neg e]
      have hm : y ∈ xs := by rcases List.mem_cons.1 h with h1 | h1; exact absurd h1.symm e; exact h1
      obtain ⟨i, h1, h2⟩ := plc_mem xs y (o + 1) hm
      exact ⟨i + 1, by simpa using h1, by rw [h2]; congr 1; omega⟩
/-- h is g, relabelled by p on the objects of L. -/
structure Iso (g h : G) (L : List Int) (p : Int → Int) : Prop where
  rng : ∀ x ∈ L, (0 ≤ x ∧ x < g.objs.length) ∧ 0 ≤ p x ∧ p x < h.objs.length
  inj : ∀ x ∈ L, ∀ y ∈ L, p x = p y → x = y
  roots : h.roots = g.roots.map (turnV p)
  rootsL : ∀ j ∈ targets g.roots, j ∈ L
  fields : ∀ x ∈ L, fieldsAt h (p x) = (fieldsAt g x).map (turnV p)
  fieldsL : ∀ x ∈ L, ∀ j ∈ targets (fieldsAt g x), j ∈ L
theorem targets_map (p : Int → Int) (l : List V) : targets (l.map (turnV p)) = (targets l).map p := by
  induction l with
  | nil => rfl
  | cons v l ih =>
    obtain ⟨r, n⟩ := v
    unfold targets at *
    cases r <;> simp [turnV] <;> simpa using ih
/-- What stands at the places that were paired. -/
structure Paired (L F : List Int) : Prop where
  nodup : F.Nodup
  sub : ∀ x ∈ F, x ∈ L
theorem Paired.snoc {L F : List Int} (h : Paired L F) {x : Int} (hx : x ∈ L) (hn : x ∉ F) : Paired L (F ++ [x]) := by
  refine ⟨?_, ?_⟩
  · rw [List.nodup_append]
    refine ⟨h.nodup, by simp, ?_⟩
    intro a ha c hc e
    simp at hc
    subst hc e
    exact hn ha
  · intro y hy
    rcases List.mem_append.1 hy with h1 | h1
    · exact h.sub y h1
    · simp at h1; subst h1; exact hx
theorem nodup_sub_len : ∀ (F L : List Int), F.Nodup → (∀ x ∈ F, x ∈ L) → F.length ≤ L.length
  | [], _, _, _ => by simp
  | x :: xs, L, hn, hs => by
    rw [List.nodup_cons] at hn
    have hx := hs x (by simp)
    have ih := nodup_sub_len xs (L.erase x) hn.2 (fun y hy => by
      rw [List.mem_erase_of_ne (by rintro rfl; exact hn.1 hy)]
      exact hs y (by simp [hy]))
    rw [List.length_erase_of_mem hx] at ih
    have : 0 < L.length := List.length_pos_of_mem hx
    simp only [List.length_cons]; omega
theorem Paired.le {L F : List Int} (h : Paired L F) : F.length ≤ L.length := nodup_sub_len F L h.nodup h.sub
/-- A relabelling that tells the objects of L apart. -/
structure Lab (L : List Int) (p : Int → Int) : Prop where
  inj : ∀ x ∈ L, ∀ y ∈ L, p x = p y → x = y
  ok : ∀ x ∈ L, i64ok x ∧ i64ok (p x)
  len : L.length ≤ 1000
def renumP (g : G) (l : List Int) (q : Int → Int) : G := ⟨l.map fun x => (fieldsAt g x).map (turnV q), g.roots.map (turnV q)⟩
end Go.Proofs.Ytgdodbdipbomfaa

/- The order in which objects are found, plainly. -/
namespace Go.Proofs.Ytgdodbdipbomfaa

def tk (F : List Int) (i : Int) : List Int := if i ∈ F then F else F ++ [i]
def tks (F l : List Int) : List Int := l.foldl tk F
theorem tk_old {F : List Int} {i : Int} (h : i ∈ F) : tk F i = F := if_pos h
theorem tk_new {F : List Int} {i : Int} (h : i ∉ F) : tk F i = F ++ [i] := if_neg h
theorem tk_prefix (F : List Int) (i : Int) : F <+: tk F i := by
  unfold tk; split
  · exact List.prefix_refl _
  · exact List.prefix_append _ _
theorem tks_prefix : ∀ (l F : List Int), F <+: tks F l
  | [], _ => List.prefix_refl _
  | i :: l, F => (tk_prefix F i).trans (tks_prefix l (tk F i))
theorem tks_append (F l m : List Int) : tks F (l ++ m) = tks (tks F l) m := List.foldl_append
theorem tks_snoc (F l : List Int) (i : Int) : tks F (l ++ [i]) = tk (tks F l) i := by rw [tks_append]; rfl
theorem mem_tk {F : List Int} {i x : Int} : x ∈ tk F i ↔ x ∈ F ∨ x = i := by
  unfold tk; split
  · rename_i h
    constructor
    · exact .inl
    · rintro (h1 | rfl)
      · exact h1
      · exact h
  · simp
theorem mem_tks : ∀ (l F : List Int) (x : Int), x ∈ tks F l ↔ x ∈ F ∨ x ∈ l
  | [], F, x => by simp [tks]
  | i :: l, F, x => by
    rw [show tks F (i :: l) = tks (tk F i) l from rfl, mem_tks l (tk F i) x, mem_tk, List.mem_cons, or_assoc]
theorem tk_nodup {F : List Int} (h : F.Nodup) (i : Int) : (tk F i).Nodup := by
  unfold tk; split
  · exact h
  · rename_i hn
    rw [List.nodup_append]
    refine ⟨h, by simp, ?_⟩
    intro a ha b hb e
    simp at hb; subst hb e; exact hn ha
theorem tks_nodup : ∀ (l F : List Int), F.Nodup → (tks F l).Nodup
  | [], _, h => h
  | i :: l, F, h => tks_nodup l (tk F i) (tk_nodup h i)

def ordAt (g : G) : Nat → List Int
  | 0 => tks [] (targets g.roots)
  | k + 1 => tks (ordAt g k) (targets (fieldsAt g ((ordAt g k).getD k 0)))
theorem ordAt_nodup (g : G) : ∀ k, (ordAt g k).Nodup
  | 0 => tks_nodup _ _ (by simp)
  | k + 1 => tks_nodup _ _ (ordAt_nodup g k)
theorem ordAt_prefix (g : G) (j : Nat) : ∀ k, j ≤ k → ordAt g j <+: ordAt g k
  | 0, h => by obtain rfl : j = 0 := by omega
               exact List.prefix_refl _
  | k + 1, h => by
    rcases Nat.lt_or_ge k j with h1 | h1
    · obtain rfl : j = k + 1 := by omega
      exact List.prefix_refl _
    · exact (ordAt_prefix g j k h1).trans (tks_prefix _ _)
/-- References are to objects that there are. -/
def Rng (g : G) : Prop := ∀ v ∈ allV g, v.ref = true → 0 ≤ v.n ∧ v.n < (g.objs.length : Int)
theorem Rng.target {g : G} (h : Rng g) {l : List V} (hl : ∀ x ∈ l, x ∈ allV g) {i : Int} (hi : i ∈ targets l) : 0 ≤ i ∧ i < (g.objs.length : Int) := by
  obtain ⟨v, hv, rfl⟩ := List.mem_map.1 hi
  obtain ⟨h1, h2⟩ := List.mem_filter.1 hv
  exact h v (hl v h1) (by simpa using h2)
theorem roots_in (g : G) : ∀ x ∈ g.roots, x ∈ allV g := fun _ hx => List.mem_append_left _ hx
theorem fields_in (g : G) (i : Int) : ∀ x ∈ fieldsAt g i, x ∈ allV g := by
  intro x hx
  unfold fieldsAt at hx
  rw [List.getD_eq_getElem?_getD] at hx
  cases h : g.objs[i.toNat]? with
  | none => rw [h] at hx; simp at hx
  | some o => rw [h] at hx; exact List.mem_append_right _ (List.mem_flatten.2 ⟨o, List.mem_of_getElem? h, hx⟩)
theorem ordAt_rng {g : G} (h : Rng g) : ∀ k, ∀ x ∈ ordAt g k, 0 ≤ x ∧ x < (g.objs.length : Int)
  | 0, x, hx => by
    rcases (mem_tks _ _ _).1 hx with h1 | h1
    · cases h1
    · exact h.target (roots_in g) h1
  | k + 1, x, hx => by
    rcases (mem_tks _ _ _).1 hx with h1 | h1
    · exact ordAt_rng h k x h1
    · exact h.target (fields_in g _) h1
def upTo (n : Nat) : List Int := (List.range n).map fun (i : Nat) => (i : Int)
theorem upTo_len (n : Nat) : (upTo n).length = n := by simp [upTo]
theorem mem_upTo {n : Nat} {x : Int} : x ∈ upTo n ↔ 0 ≤ x ∧ x < (n : Int) := by
  unfold upTo
  rw [List.mem_map]
  constructor
  · rintro ⟨i, hi, rfl⟩; have := List.mem_range.1 hi; omega
  · intro h; exact ⟨x.toNat, List.mem_range.2 (by omega), by omega⟩
theorem ordAt_len {g : G} (h : Rng g) (k : Nat) : (ordAt g k).length ≤ g.objs.length := by
  have := nodup_sub_len (ordAt g k) (upTo g.objs.length) (ordAt_nodup g k) (fun x hx => mem_upTo.2 (ordAt_rng h k x hx))
  rwa [upTo_len] at this

/-- F is what is found, in order. -/
def OrdS (g : G) (F : List Int) : Prop := ordAt g F.length = F ∧ ∀ j, j < F.length → j < (ordAt g j).length
theorem ord_exists {g : G} (h : Rng g) : ∃ F, OrdS g F := by
  have key : ∀ (fuel k : Nat), g.objs.length ≤ k + fuel → (∀ j, j < k → j < (ordAt g j).length) → ∃ K, (∀ j, j < K → j < (ordAt g j).length) ∧ (ordAt g K).length ≤ K := by
    intro fuel
    induction fuel with
    | zero => intro k hk hj; exact ⟨k, hj, by have := ordAt_len h k; omega⟩
    | succ f ih =>
      intro k hk hj
      by_cases hle : (ordAt g k).length ≤ k
      · exact ⟨k, hj, hle⟩
      · refine ih (k + 1) (by omega) ?_
        intro j hj2
        rcases Nat.lt_or_ge j k with h1 | h1
        · exact hj j h1
        · obtain rfl : j = k := by omega
          omega
  obtain ⟨K, hK, hle⟩ := key g.objs.length 0 (by omega) (fun j hj => absurd hj (by omega))
  have hlen : (ordAt g K).length = K := by
    cases K with
    | zero => omega
    | succ k =>
      have h1 := hK k (by omega)
      have h2 := (ordAt_prefix g k (k + 1) (by omega)).length_le
      omega
  exact ⟨ordAt g K, by rw [hlen], by rw [hlen]; exact hK⟩
theorem OrdS.unique {g : G} {F E : List Int} (hF : OrdS g F) (hE : OrdS g E) : F = E := by
  rcases Nat.lt_trichotomy F.length E.length with h | h | h
  · have := hE.2 _ h; rw [hF.1] at this; omega
  · rw [← hF.1, ← hE.1, h]
  · have := hF.2 _ h; rw [hE.1] at this; omega
theorem OrdS.nodup {g : G} {F : List Int} (h : OrdS g F) : F.Nodup := by rw [← h.1]; exact ordAt_nodup g _
theorem OrdS.rng {g : G} {F : List Int} (h : OrdS g F) (hr : Rng g) : ∀ x ∈ F, 0 ≤ x ∧ x < (g.objs.length : Int) := by
  intro x hx; rw [← h.1] at hx; exact ordAt_rng hr _ x hx
theorem OrdS.pre {g : G} {F : List Int} (h : OrdS g F) {k : Nat} (hk : k ≤ F.length) : ordAt g k <+: F := by
  have := ordAt_prefix g k F.length hk
  rwa [h.1] at this
theorem prefix_get {α : Type} {l m : List α} (h : l <+: m) {k : Nat} (hk : k < l.length) : m[k]? = l[k]? := by
  obtain ⟨t, rfl⟩ := h
  rw [List.getElem?_append_left hk]
theorem OrdS.at_ {g : G} {F : List Int} (h : OrdS g F) {k : Nat} (hk : k < F.length) : (ordAt g k).getD k 0 = F.getD k 0 := by
  rw [List.getD_eq_getElem?_getD, List.getD_eq_getElem?_getD, prefix_get (h.pre (Nat.le_of_lt hk)) (h.2 k hk)]
theorem OrdS.roots {g : G} {F : List Int} (h : OrdS g F) : ∀ j ∈ targets g.roots, j ∈ F := by
  intro j hj
  exact (h.pre (Nat.zero_le _)).subset ((mem_tks _ _ _).2 (.inr hj))
theorem OrdS.closed {g : G} {F : List Int} (h : OrdS g F) {x : Int} (hx : x ∈ F) : ∀ j ∈ targets (fieldsAt g x), j ∈ F := by
  intro j hj
  obtain ⟨k, hk⟩ := List.getElem?_of_mem hx
  have hkl := (List.getElem?_eq_some_iff.1 hk).1
  refine (h.pre (show k + 1 ≤ F.length by omega)).subset ((mem_tks _ _ _).2 (.inr ?_))
  rw [h.at_ hkl, List.getD_eq_getElem?_getD, hk]
  exact hj
theorem OrdS.least {g : G} {F : List Int} (h : OrdS g F) {P : Int → Prop} (h0 : ∀ j ∈ targets g.roots, P j) (h1 : ∀ x, P x → ∀ j ∈ targets (fieldsAt g x), P j) : ∀ x ∈ F, P x := by
  have key : ∀ k, k ≤ F.length → ∀ x ∈ ordAt g k, P x := by
    intro k
    induction k with
    | zero =>
      intro _ x hx
      rcases (mem_tks _ _ _).1 hx with h2 | h2
      · cases h2
      · exact h0 x h2
    | succ k ih =>
      intro hk x hx
      rcases (mem_tks _ _ _).1 hx with h2 | h2
      · exact ih (by omega) x h2
      · have hlt := h.2 k (by omega)
        refine h1 _ (ih (by omega) _ ?_) x h2
        rw [List.getD_eq_getElem?_getD, List.getElem?_eq_getElem hlt]
        exact List.getElem_mem hlt
  intro x hx
  rw [← h.1] at hx
  exact key _ (Nat.le_refl _) x hx

/-! ### Relabelled -/
theorem tk_map {L F : List Int} {p : Int → Int} (hinj : ∀ x ∈ L, ∀ y ∈ L, p x = p y → x = y) (hF : ∀ x ∈ F, x ∈ L) {i : Int} (hi : i ∈ L) : tk (F.map p) (p i) = (tk F i).map p := by
  by_cases h : i ∈ F
  · rw [tk_old h, tk_old (List.mem_map.2 ⟨i, h, rfl⟩)]
  · rw [tk_new h, tk_new, List.map_append, List.map_singleton]
    intro h2
    obtain ⟨y, hy, e⟩ := List.mem_map.1 h2
    exact h (hinj y (hF y hy) i hi e ▸ hy)
theorem tks_map {L : List Int} {p : Int → Int} (hinj : ∀ x ∈ L, ∀ y ∈ L, p x = p y → x = y) : ∀ (l F : List Int), (∀ x ∈ F, x ∈ L) → (∀ x ∈ l, x ∈ L) → tks (F.map p) (l.map p) = (tks F l).map p
  | [], _, _, _ => rfl
  | i :: l, F, hF, hl => by
    rw [List.map_cons]
    show tks (tk (F.map p) (p i)) (l.map p) = (tks (tk F i) l).map p
    rw [tk_map hinj hF (hl i List.mem_cons_self)]
    refine tks_map hinj l (tk F i) ?_ (fun x hx => hl x (List.mem_cons_of_mem _ hx))
    intro x hx
    rcases mem_tk.1 hx with h | rfl
    · exact hF x h
    · exact hl x List.mem_cons_self
theorem iso_ord {g h : G} {L : List Int} {p : Int → Int} (I : Iso g h L p) {F : List Int} (hF : OrdS g F) : OrdS h (F.map p) := by
  have key : ∀ k, k ≤ F.length → ordAt h k = (ordAt g k).map p ∧ ∀ x ∈ ordAt g k, x ∈ L := by
    intro k
    induction k with
    | zero =>
      intro _
      refine ⟨?_, ?_⟩
      · unfold ordAt
        rw [I.roots, targets_map]
        have := tks_map I.inj (targets g.roots) [] (by simp) I.rootsL
        simpa using this
      · intro x hx
        rcases (mem_tks _ _ _).1 hx with h2 | h2
        · cases h2
        · exact I.rootsL x h2
    | succ k ih =>
      intro hk
      obtain ⟨e, hL⟩ := ih (by omega)
      have hlt := hF.2 k (by omega)
      obtain ⟨x, hx⟩ : ∃ x, (ordAt g k)[k]? = some x := ⟨_, List.getElem?_eq_getElem hlt⟩
      have hxL := hL x (List.mem_of_getElem? hx)
      have g1 : (ordAt g k).getD k 0 = x := by rw [List.getD_eq_getElem?_getD, hx]; rfl
      have g2 : (ordAt h k).getD k 0 = p x := by rw [e, List.getD_eq_getElem?_getD, List.getElem?_map, hx]; rfl
      refine ⟨?_, ?_⟩
      · show tks (ordAt h k) (targets (fieldsAt h ((ordAt h k).getD k 0))) = (tks (ordAt g k) (targets (fieldsAt g ((ordAt g k).getD k 0)))).map p
        rw [g1, g2, I.fields x hxL, targets_map, e]
        exact tks_map I.inj _ _ hL (I.fieldsL x hxL)
      · intro y hy
        rcases (mem_tks _ _ _).1 hy with h2 | h2
        · exact hL y h2
        · rw [g1] at h2; exact I.fieldsL x hxL y h2
  refine ⟨?_, ?_⟩
  · rw [List.length_map, (key _ (Nat.le_refl _)).1, hF.1]
  · intro j hj
    rw [List.length_map] at hj
    rw [(key j (by omega)).1, List.length_map]; exact hF.2 j hj
theorem plc_at {F : List Int} (hn : F.Nodup) {k : Nat} {x : Int} (h : F[k]? = some x) : plc F x 0 = k := by
  rw [plc_get F x 0 k h ?_, Nat.zero_add]
  intro j hj e
  have hjl := (List.getElem?_eq_some_iff.1 e).1
  have hkl := (List.getElem?_eq_some_iff.1 h).1
  have h1 := (List.getElem?_eq_some_iff.1 e).2
  have h2 := (List.getElem?_eq_some_iff.1 h).2
  have := (List.nodup_iff_pairwise_ne.1 hn)
  exact List.pairwise_iff_getElem.1 this j k hjl hkl hj (h1.trans h2.symm)
theorem plc_map {F : List Int} (hn : F.Nodup) : F.map (fun y => plc F y 0) = upTo F.length := by
  refine List.ext_getElem? fun k => ?_
  rw [List.getElem?_map]
  by_cases hk : k < F.length
  · obtain ⟨x, hx⟩ : ∃ x, F[k]? = some x := ⟨_, List.getElem?_eq_getElem hk⟩
    rw [hx, Option.map_some, plc_at hn hx]
    simp [upTo, hk]
  · rw [List.getElem?_eq_none (by omega), List.getElem?_eq_none (by rw [upTo_len]; omega)]; rfl
theorem iso_plc {g : G} {F : List Int} (hr : Rng g) (h : OrdS g F) : Iso g (renumP g F (fun y => plc F y 0)) F (fun y => plc F y 0) := by
  have hat : ∀ x ∈ F, ∃ k : Nat, F[k]? = some x ∧ plc F x 0 = k := by
    intro x hx
    obtain ⟨k, hk⟩ := List.getElem?_of_mem hx
    exact ⟨k, hk, plc_at h.nodup hk⟩
  refine ⟨?_, ?_, rfl, h.roots, ?_, fun x hx => h.closed hx⟩
  · intro x hx
    obtain ⟨k, hk, e⟩ := hat x hx
    have hkl := (List.getElem?_eq_some_iff.1 hk).1
    refine ⟨h.rng hr x hx, ?_⟩
    simp only [e, renumP, List.length_map]; omega
  · intro x hx y hy e
    obtain ⟨k, hk, e1⟩ := hat x hx
    obtain ⟨j, hj, e2⟩ := hat y hy
    simp only [e1, e2] at e
    obtain rfl : k = j := by omega
    rw [hk] at hj; exact Option.some.inj hj
  · intro x hx
    obtain ⟨k, hk, e⟩ := hat x hx
    show fieldsAt _ (plc F x 0) = _
    rw [e]
    unfold fieldsAt renumP
    rw [List.getD_eq_getElem?_getD, Int.toNat_natCast, List.getElem?_map, hk]
    rfl
/-- What was renumbered as found is found as it is numbered. -/
theorem ord_twice {g : G} {F : List Int} (hr : Rng g) (h : OrdS g F) : OrdS (renumP g F (fun y => plc F y 0)) (upTo F.length) := by
  have := iso_ord (iso_plc hr h) h
  rwa [plc_map h.nodup] at this
/-- A graph of moderate size. -/
structure Fits (g : G) : Prop where
  objs : g.objs.length ≤ 1000
  roots : g.roots.length ≤ 1000
  fields : ∀ o ∈ g.objs, o.length ≤ 1000
  rng : Rng g
  vals : ∀ v ∈ allV g, i64ok v.n
theorem Good.fits {g : G} (h : Good g) : Fits g := by
  have hv : ∀ v ∈ allV g, (v.ref = true → 0 ≤ v.n ∧ v.n < (g.objs.length : Int)) ∧ i64ok v.n := by
    intro v hv
    have h1 := h.vals v hv
    have h2 := h.objs
    unfold badC at h1
    unfold i64ok
    cases hr : v.ref with
    | true =>
      rw [if_pos hr] at h1
      by_cases hc : v.n < 0 ∨ (g.objs.length : Int) ≤ v.n
      · rw [if_pos hc] at h1; cases h1
      · exact ⟨fun _ => by omega, by omega⟩
    | false =>
      rw [if_neg (by rw [hr]; decide)] at h1
      by_cases hc : v.n < -4611686018427387904 ∨ 4611686018427387903 < v.n
      · rw [if_pos hc] at h1; cases h1
      · exact ⟨fun h => (by cases h), by omega⟩
  exact ⟨by have := h.objs; omega, by have := h.roots; omega, fun o ho => by have := h.fields o ho; omega, fun v hm => (hv v hm).1, fun v hm => (hv v hm).2⟩
end Go.Proofs.Ytgdodbdipbomfaa

/- ragpickerref.place, walked. -/
namespace Go.Proofs.Ytgdodbdipbomfaa
open Go.RowKit Go.Shelf

theorem drop_get {l : List Int} {k : Nat} {x : Int} (h : l[k]? = some x) : l.drop k = x :: l.drop (k + 1) := by
  obtain ⟨hk, rfl⟩ := List.getElem?_eq_some_iff.1 h
  exact List.drop_eq_getElem_cons hk

set_option maxHeartbeats 400000 in
theorem place_any (v : Value) (l : List Int) (y : Int) (w : World) (hl : IsInts w v l) :
    Calls Try.prog 79 #[v, .int .i64 y] w fun e w' => e = .returned (.int .i64 (plc l y 0)) ∧ w = w' := by
  obtain ⟨a, cap, rfl, hm⟩ := hl.slice
  have Hl := Lib.hid hl
  clear hl
  go_enter Try.func79, Try.ntmps79
  go_wp2
  go_loop [5] (fun i => ∃ k : Nat, k ≤ l.length ∧ i = .int .i64 k ∧ plc l y 0 = plc (l.drop k) y k) (fun i => l.length - (intOf i).toNat)
  case atStart => exact ⟨0, Nat.zero_le _, rfl, rfl⟩
  case round =>
    obtain ⟨k, hk, rfl, hN⟩ := hrel
    by_cases hlt : k < l.length
    · obtain ⟨x, hx⟩ := get_some _ _ hlt
      obtain ⟨b, off, cap2, hv, hb, hn, c1, _⟩ := Hl.out.at (Below.refl _ _) hx
      cases hv
      have h2 := hN
      rw [drop_get hx, plc] at h2
      clear hx hN
      by_cases hxy : x = y
      · rw [if_pos hxy] at h2
        subst hxy
        have H2 := Lib.hid h2
        clear h2
        go_wp2
        go_ret
        exact ⟨by rw [H2.out]; rfl, rfl⟩
      · rw [if_neg hxy] at h2
        have H2 := Lib.hid h2
        clear h2
        go_wp2
        go_round
        case rel => exact ⟨k + 1, by omega, by go_num, H2.out⟩
        case measure => simp [intOf]; omega
    · obtain rfl : k = l.length := by omega
      rw [List.drop_length, plc] at hN
      have HN := Lib.hid hN
      clear hN
      go_wp2
      go_ret
      exact ⟨by rw [HN.out]; rfl, rfl⟩
end Go.Proofs.Ytgdodbdipbomfaa

/- What graph.Found computes, as a function on data; its invariant. Plain. -/
namespace Go.Proofs.Ytgdodbdipbomfaa

/-- Found so far, in order; how far each is (-1: not found). -/
abbrev S := List Int × List Int
def take1 (d : Int) (s : S) (i : Int) : S := if s.2.getD i.toNat 0 < 0 then (s.1 ++ [i], s.2.set i.toNat d) else s
def distAt (s : S) (k : Nat) : Int := s.2.getD (s.1.getD k 0).toNat 0
def visitTo (s : S) (k : Nat) (pre : List Int) : S := pre.foldl (fun t j => take1 (distAt t k + 1) t j) s
def visit (g : G) (s : S) (k : Nat) : S := visitTo s k (targets (fieldsAt g (s.1.getD k 0)))
def found0 (n : Nat) (pre : List Int) : S := pre.foldl (take1 0) ([], List.replicate n (-1))
def foundAt (g : G) : Nat → S
  | 0 => found0 g.objs.length (targets g.roots)
  | k + 1 => visit g (foundAt g k) k

structure SInv (n : Nat) (s : S) : Prop where
  len : s.2.length = n
  nodup : s.1.Nodup
  rng : ∀ x ∈ s.1, 0 ≤ x ∧ x < n
  iff : ∀ i, i < n → (0 ≤ s.2.getD i 0 ↔ (i : Int) ∈ s.1)
  low : ∀ x ∈ s.2, -1 ≤ x
  le : ∀ (j : Nat) (x : Int), s.1[j]? = some x → s.2.getD x.toNat 0 ≤ (j : Int)

theorem sinv_start (n : Nat) : SInv n (([], List.replicate n (-1)) : S) := by
  refine ⟨by simp, by simp, by simp, ?_, ?_, by simp⟩
  · intro i hi; simp [hi]
  · intro x hx; have := (List.mem_replicate.1 hx).2; omega

theorem getD_set {l : List Int} {i j : Nat} {v d : Int} (hi : i < l.length) : (l.set i v).getD j d = if i = j then v else l.getD j d := by
  simp only [List.getD_eq_getElem?_getD, List.getElem?_set]
  by_cases h : i = j
  · subst h; simp [hi]
  · simp [h]

theorem take1_inv {n : Nat} {s : S} {x d : Int} (h : SInv n s) (hx : 0 ≤ x ∧ x < n) (hd : 0 ≤ d ∧ d ≤ s.1.length) : SInv n (take1 d s x) := by
  unfold take1
  split
  · rename_i hlt
    have hxn : x.toNat < n := by omega
    have hx2 : ((x.toNat : Nat) : Int) = x := by omega
    have hni : x ∉ s.1 := by
      intro hm
      have := (h.iff x.toNat hxn).2 (by rw [hx2]; exact hm)
      omega
    refine ⟨by simpa using h.len, ?_, ?_, ?_, ?_, ?_⟩
    · rw [List.nodup_append]
      refine ⟨h.nodup, by simp, ?_⟩
      intro a ha b hb
      simp at hb; subst hb
      rintro rfl; exact hni ha
    · intro y hy
      rcases List.mem_append.1 hy with h1 | h1
      · exact h.rng y h1
      · simp at h1; subst h1; exact hx
    · intro i hi
      rw [getD_set (by rw [h.len]; exact hxn)]
      split
      · rename_i he
        subst he
        simp only [hx2]
        constructor
        · intro _; simp
        · intro _; exact hd.1
      · rename_i he
        rw [h.iff i hi, List.mem_append]
        constructor
        · exact .inl
        · rintro (h1 | h1)
          · exact h1
          · simp at h1; omega
    · intro y hy
      rcases List.mem_or_eq_of_mem_set hy with h1 | h1
      · exact h.low y h1
      · omega
    · intro j y hy
      rw [getD_set (by rw [h.len]; exact hxn)]
      rcases Nat.lt_or_ge j s.1.length with hj | hj
      · rw [List.getElem?_append_left hj] at hy
        split
        · rename_i he
          have hm := List.mem_of_getElem? hy
          have hr := h.rng y hm
          have : y = x := by omega
          subst this
          exact (hni hm).elim
        · exact h.le j y hy
      · rw [List.getElem?_append_right hj] at hy
        have hj0 : j = s.1.length := by
          rcases Nat.eq_zero_or_pos (j - s.1.length) with h0 | h0
          · omega
          · rw [List.getElem?_eq_none (by simp; omega)] at hy; cases hy
        subst hj0
        simp at hy; subst hy
        simp; exact hd.2
  · exact h

theorem take1_len (d : Int) (s : S) (x : Int) : s.1.length ≤ (take1 d s x).1.length := by unfold take1; split <;> simp
theorem take1_get {d : Int} {s : S} {x : Int} {k : Nat} {y : Int} (h : s.1[k]? = some y) : (take1 d s x).1[k]? = some y := by
  unfold take1; split
  · rw [List.getElem?_append_left (List.getElem?_eq_some_iff.1 h).1]; exact h
  · exact h

theorem nodup_len : ∀ (n : Nat) (l : List Nat), l.Nodup → (∀ x ∈ l, x < n) → l.length ≤ n := by
  intro n
  induction n with
  | zero => intro l _ h; cases l with
    | nil => simp
    | cons a l => have := h a (by simp); omega
  | succ n ih =>
    intro l hn h
    have h1 := ih (l.erase n) (hn.erase n) (fun x hx => by
      have h2 := h x (List.mem_of_mem_erase hx)
      have h3 : x ≠ n := by rintro rfl; exact (List.Nodup.not_mem_erase hn) hx
      omega)
    by_cases hm : n ∈ l
    · have := List.length_erase_of_mem hm
      omega
    · have := List.erase_of_not_mem hm
      rw [this] at h1; omega

theorem SInv.length_le {n : Nat} {s : S} (h : SInv n s) : s.1.length ≤ n := by
  have := nodup_len n (s.1.map Int.toNat) (by
    unfold List.Nodup
    rw [List.pairwise_map]
    refine List.Pairwise.imp_of_mem ?_ h.nodup
    intro x y hx hy hne he
    have := h.rng x hx; have := h.rng y hy; exact hne (by omega)) (by
    intro x hx
    obtain ⟨y, hy, rfl⟩ := List.mem_map.1 hx
    have := h.rng y hy; omega)
  simpa using this

theorem found0_inv (n : Nat) (pre : List Int) (h : ∀ x ∈ pre, 0 ≤ x ∧ x < (n : Int)) : SInv n (found0 n pre) := by
  unfold found0
  have key : ∀ (pre : List Int) (s : S), SInv n s → (∀ x ∈ pre, 0 ≤ x ∧ x < (n : Int)) → SInv n (pre.foldl (take1 0) s) := by
    intro pre
    induction pre with
    | nil => intro s hs _; exact hs
    | cons a pre ih => intro s hs hp; exact ih _ (take1_inv hs (hp a (by simp)) ⟨by omega, by omega⟩) (fun x hx => hp x (by simp [hx]))
  exact key pre _ (sinv_start n) h

/-- Within a visit of the object at k. -/
structure VInv (n k : Nat) (x : Int) (s : S) : Prop where
  inv : SInv n s
  at_ : s.1[k]? = some x
theorem VInv.dist {n k : Nat} {x : Int} {s : S} (h : VInv n k x s) : 0 ≤ distAt s k ∧ distAt s k ≤ k ∧ distAt s k = s.2.getD x.toNat 0 := by
  have hx := h.inv.rng x (List.mem_of_getElem? h.at_)
  have e : s.1.getD k 0 = x := by rw [List.getD_eq_getElem?_getD, h.at_]; rfl
  unfold distAt
  rw [e]
  refine ⟨(h.inv.iff x.toNat (by omega)).2 ?_, h.inv.le k x h.at_, rfl⟩
  have : ((x.toNat : Nat) : Int) = x := by omega
  rw [this]; exact List.mem_of_getElem? h.at_
theorem VInv.step {n k : Nat} {x : Int} {s : S} (h : VInv n k x s) {j : Int} (hj : 0 ≤ j ∧ j < (n : Int)) : VInv n k x (take1 (distAt s k + 1) s j) := by
  have hk : k < s.1.length := (List.getElem?_eq_some_iff.1 h.at_).1
  have hd := h.dist
  exact ⟨take1_inv h.inv hj ⟨by omega, by omega⟩, take1_get h.at_⟩
theorem visitTo_inv {n k : Nat} {x : Int} : ∀ (pre : List Int) (s : S), VInv n k x s → (∀ j ∈ pre, 0 ≤ j ∧ j < (n : Int)) → VInv n k x (visitTo s k pre) := by
  intro pre
  induction pre with
  | nil => intro s hs _; exact hs
  | cons a pre ih => intro s hs hp; exact ih _ (hs.step (hp a (by simp))) (fun x hx => hp x (by simp [hx]))
theorem visitTo_snoc (s : S) (k : Nat) (pre : List Int) (j : Int) : visitTo s k (pre ++ [j]) = take1 (distAt (visitTo s k pre) k + 1) (visitTo s k pre) j := by simp [visitTo]
theorem found0_snoc (n : Nat) (pre : List Int) (j : Int) : found0 n (pre ++ [j]) = take1 0 (found0 n pre) j := by simp [found0]

/-- References of a good graph are to its objects. -/
theorem Good.target {g : G} (hg : Good g) {l : List V} (hl : ∀ x ∈ l, x ∈ allV g) {i : Int} (hi : i ∈ targets l) : 0 ≤ i ∧ i < (g.objs.length : Int) := by
  obtain ⟨v, hv, rfl⟩ := List.mem_map.1 hi
  obtain ⟨h1, h2⟩ := List.mem_filter.1 hv
  have := hg.vals v (hl v h1)
  unfold badC at this
  rw [if_pos (by simpa using h2)] at this
  split at this
  · cases this
  · omega
theorem roots_all (g : G) : ∀ x ∈ g.roots, x ∈ allV g := fun _ hx => List.mem_append_left _ hx
theorem fields_all (g : G) (i : Int) : ∀ x ∈ fieldsAt g i, x ∈ allV g := by
  intro x hx
  unfold fieldsAt at hx
  rw [List.getD_eq_getElem?_getD] at hx
  cases h : g.objs[i.toNat]? with
  | none => rw [h] at hx; simp at hx
  | some o => rw [h] at hx; exact List.mem_append_right _ (List.mem_flatten.2 ⟨o, List.mem_of_getElem? h, hx⟩)

theorem foundAt_inv {g : G} (hg : Good g) : ∀ k, (∀ j, j < k → j < (foundAt g j).1.length) → SInv g.objs.length (foundAt g k)
  | 0, _ => found0_inv _ _ fun _ hx => hg.target (roots_all g) hx
  | k + 1, h => by
    have ih := foundAt_inv hg k (fun j hj => h j (by omega))
    have hk := h k (by omega)
    obtain ⟨x, hx⟩ := get_some _ _ hk
    exact (visitTo_inv (x := x) _ _ ⟨ih, hx⟩ fun j hj => hg.target (fields_all g _) hj).inv

/-- What Found tells. -/
def FoundS (g : G) (l dist : List Int) : Prop := ∃ k, foundAt g k = (l, dist) ∧ k = l.length ∧ (∀ j, j < k → j < (foundAt g j).1.length)
end Go.Proofs.Ytgdodbdipbomfaa

/- append as one step of a drawing region; slices of objects of the call's own; graphs that were made. -/
namespace Go.Proofs.Ytgdodbdipbomfaa
open Go.RowKit

section
variable {P : Program} {B : Nat} {w0 w : World} {L : List Ent} {t e : TypeId} {sz bytes : Nat} {z : Value}
theorem Mem.step_app1 (T : Elem P t e sz bytes z) {ops : Array Oper} {o : Oper} {ac : Act} {K : Act → World → Prop} {Q : Exit → Act → World → Prop} {E : Prop} (hgd : o.guard = none) (s x : Operand)
    (ho : o.op = .call { callee := .builtin .append, args := #[s, x], argTypes := #[t, t] }) (h : Mem B w0 w L) (k : Nat) {v : Value} {n : Nat} {xs : List Value} (hk : L[k]? = some (erow e sz v n xs))
    (hs : ac.eval s = v) (c : Nat) (news : Array Value) (e2 : TypeId) (bl : Nat) (hx : ac.eval x = .slice (some ⟨bl, 0, none⟩) 1 c) (hbl : w.heap.size = bl) (hl : news.size = sz)
    (h1 : news.toList.all (·.oneCell') = true) (hb : bytes ≤ 1000) (hn : n ≤ 1000000)
    (hh : ∀ ad cap w', Mem B w0 w' (L.set k (erow e sz (.slice ad (n + 1) cap) (n + 1) (xs ++ news.toList))) → w.heap.size < w'.heap.size →
      (∀ b, b < w.heap.size → v.ownBlock ≠ some b → w'.heap[b]? = w.heap[b]?) → K (ac.put o.dst (.slice ad (n + 1) cap)) w') :
    if Region.wanted o (yielded ops ac.tmps) = true then Oper.wp P o ac (w.alloc (.cells news e2)) K Q else E := by
  subst hbl
  obtain ⟨v', w', hr, h2, h3, h4, h5, ad, cap, rfl⟩ := (h.alloc_ (.cells news e2)).run_append T o.type k hk ⟨w.heap.size, 0, none⟩ 1 c news.toList (by simpa using hl) (by
    intro j u hj
    have e : (⟨w.heap.size, 0, none⟩ : Addr).add j = ⟨w.heap.size, j, none⟩ := by unfold Addr.add; split <;> simp_all
    rw [e, World.cell?_alloc_new]
    simpa using hj) (fun u hu => List.all_eq_true.1 h1 u hu) (by simp only [maxLen]; omega) (by
    have := Nat.mul_le_mul (show n + 1 ≤ 1000001 by omega) hb
    omega)
  refine step_append_eq' hgd s x t ho hs hx hr (hh ad cap w' h2 (by simp at h3; omega) ?_)
  intro b hb hne
  exact (h4 b (by simp; omega) hne).trans (heap_alloc_old w _ hb)
end

theorem Ent.ok_weak {B B' : Nat} {w : World} {x : Ent} (h : x.ok B w) (hB : B' ≤ B) : x.ok B' w := ⟨fun b e => ⟨Nat.le_trans hB (h.1 b e).1, (h.1 b e).2⟩, h.2⟩

theorem elemObjs : Elem Try.prog 33 64 1 24 (.agg #[.slice none 0 0]) := ⟨by kernel_rfl, info_parts (by kernel_rfl), rfl, by decide⟩

/-- Rows of values that the call made, one behind the other. -/
abbrev Rws := List (Value × List V)
def rowsE (rows : Rws) : List Ent := rows.map fun r => rowV 96 r.1 r.2
theorem rowsE_snoc (rows : Rws) (r : Value × List V) : rowsE (rows ++ [r]) = rowsE rows ++ [rowV 96 r.1 r.2] := by simp [rowsE]
theorem Mem.rowsSnoc {B : Nat} {w0 w : World} {A : List Ent} {rows : Rws} {v : Value} {l : List V} (h : Mem B w0 w ([rowV 96 v l] ++ (A ++ rowsE rows))) : Mem B w0 w (A ++ rowsE (rows ++ [(v, l)])) := by
  refine h.perm ?_
  rw [rowsE_snoc, ← List.append_assoc]
  exact List.perm_append_comm

theorem isObjs_of_own {w : World} {B n : Nat} {e : TypeId} {v : Value} {rows : Rws} (h : w.ownsRow B e 1 v n (rows.map (·.1))) (hn : rows.length ≤ 1000000) (hr : ∀ r ∈ rows, IsVals w r.1 r.2) : IsObjs w v (rows.map (·.2)) := by
  have hlen : rows.length = n := by have := h.1; simpa using this
  rcases h.2 with ⟨rfl, h0⟩ | ⟨g, cap, cur, rfl, hB, hg, hnc, hcap, hcs, htk⟩
  · have : rows = [] := List.eq_nil_of_length_eq_zero (by omega)
    subst this
    exact ⟨none, 0, rfl, by simp, by simp⟩
  · refine ⟨_, cap, by rw [List.length_map, hlen], by rw [List.length_map]; omega, ?_⟩
    intro k x hx
    rw [List.getElem?_map] at hx
    obtain ⟨r, hr1, rfl⟩ := Option.map_eq_some_iff.1 hx
    have hk : k < n := by have := (List.getElem?_eq_some_iff.1 hr1).1; omega
    refine ⟨g, 0, r.1, rfl, (Array.getElem?_eq_some_iff.1 hg).1, ?_, hr r (List.mem_of_getElem? hr1)⟩
    rw [Nat.zero_add, h.cellAt k (by omega), List.getElem?_map, hr1]; rfl
theorem Mem.isSlice {B : Nat} {w0 w : World} {L : List Ent} (h : Mem B w0 w L) (k : Nat) {e : TypeId} {sz n : Nat} {v : Value} {xs : List Value} (hk : L[k]? = some (erow e sz v n xs)) : ∃ a m c, v = .slice a m c := by
  rcases (h.row k hk).2 with ⟨rfl, _⟩ | ⟨g, cap, cur, rfl, _⟩
  · exact ⟨_, _, _, rfl⟩
  · exact ⟨_, _, _, rfl⟩
theorem Mem.isVals {B : Nat} {w0 w : World} {L : List Ent} (h : Mem B w0 w L) (k : Nat) {e : TypeId} {v : Value} {l : List V} (hk : L[k]? = some (rowV e v l)) (hl : l.length ≤ 1000000) (hn : ∀ x ∈ l, i64ok x.n) : IsVals w v l := isVals_of_own (h.ownV k hk) hl hn
theorem Mem.isValsM {B : Nat} {w0 w : World} {L : List Ent} (h : Mem B w0 w L) {e : TypeId} {v : Value} {l : List V} (hm : rowV e v l ∈ L) (hl : l.length ≤ 1000000) (hn : ∀ x ∈ l, i64ok x.n) : IsVals w v l := by
  obtain ⟨k, hk, he⟩ := List.getElem_of_mem hm
  exact h.isVals k (by rw [List.getElem?_eq_getElem hk, he]) hl hn
/-- What is owned is owned in any world that agrees on its blocks. -/
theorem Mem.move {B : Nat} {w0 w W' : World} {L : List Ent} (h : Mem B w0 w L) (hs : w.heap.size ≤ W'.heap.size) (hb : ∀ b, B ≤ b → b < w.heap.size → W'.heap[b]? = w.heap[b]?) : Mem B W' W' L :=
  ⟨Below.refl _ _, Nat.le_trans h.base hs, fun x hx => Ent.ok_same (h.ok x hx) hs (fun b e => hb b (h.lt hx b e).1 (h.lt hx b e).2), h.apart⟩
/-- A graph, in any world that agrees on the blocks from B on. -/
def Graft (B : Nat) (w : World) (v : Value) (c : G) : Prop := ∀ W' : World, w.heap.size ≤ W'.heap.size → (∀ b, B ≤ b → b < w.heap.size → W'.heap[b]? = w.heap[b]?) → IsGraph W' v c
theorem Graft.here {B : Nat} {w : World} {v : Value} {c : G} (h : Graft B w v c) : IsGraph w v c := h w (Nat.le_refl _) (fun _ _ _ => rfl)
theorem Graft.step {B B' : Nat} {w w' : World} {v : Value} {c : G} (h : Graft B w v c) (hB : B' ≤ B) (hs : w.heap.size ≤ w'.heap.size) (hb : ∀ b, B ≤ b → b < w.heap.size → w'.heap[b]? = w.heap[b]?) : Graft B' w' v c :=
  fun W' hs' hb' => h W' (Nat.le_trans hs hs') (fun b h1 h2 => (hb' b (Nat.le_trans hB h1) (Nat.lt_of_lt_of_le h2 hs)).trans (hb b h1 h2))

theorem take_ne {α : Type} {l m : List α} {k : Nat} {x y : α} (hx : l[k]? = some x) (hy : m[k]? = some y) (h : x ≠ y) : l ≠ m := by
  rintro rfl
  rw [hx] at hy; cases hy; exact h rfl
end Go.Proofs.Ytgdodbdipbomfaa

/- Maps of the call's own, of any element: what lies at each key, value by value. -/
namespace Go.Proofs.Ytgdodbdipbomfaa
open Go.RowKit Go.Maps

/-- A map's type, and how keys are spelled. -/
structure MapT (P : Program) (κ : Type) where
  t : TypeId
  k : TypeId
  e : TypeId
  enc : κ → Value
  lit : κ → Lit
  ok : κ → Prop
  zero : Value
  keyed : Keyed P k
  under : P.underlying t = some (.map k e)
  key : ∀ x, ok x → keyOf P k (enc x) = some (lit x)
  inj : ∀ x y, ok x → ok y → lit x = lit y → x = y
  zeroOk : ∀ w : World, (zeroValue e).run P w = .ok zero w

def rawE (v : Value) : Option (DataW Value × List MemPlace) := some (.held v, [])
/-- Block b is a map of at most n entries; f tells what lies at each key. -/
def gmap {P : Program} {κ : Type} (M : MapT P κ) (b n : Nat) (f : κ → Option Value) : Ent := ⟨some b, fun o => ∃ (wv : World) (D : DataW Value), wv.heap[b]? = o ∧ wv.ownsMap P M.k rawE b n D ∧ IsMap D ∧
  ∀ x, M.ok x → ∀ zd, D.atKey (M.lit x) zd = match f x with | some v => .held v | none => zd⟩

section
variable {P : Program} {κ : Type} {M : MapT P κ} {B : Nat} {w0 w : World} {L : List Ent}
theorem gmap_own {b n : Nat} {f : κ → Option Value} (h : (gmap M b n f).ok B w) : B ≤ b ∧ b < w.heap.size ∧ ∃ D : DataW Value, w.ownsMap P M.k rawE b n D ∧ IsMap D ∧
    ∀ x, M.ok x → ∀ zd, D.atKey (M.lit x) zd = match f x with | some v => .held v | none => zd := by
  obtain ⟨h1, wv, D, h2, ⟨es, clock, hb, r⟩, h4, h5⟩ := h
  obtain ⟨a, c⟩ := h1 b rfl
  refine ⟨a, c, D, ⟨es, clock, ?_, r⟩, h4, h5⟩
  have : w.heap[b]? = wv.heap[b]? := h2.symm
  rw [this]; exact hb
theorem gmap_ok {b n : Nat} {f : κ → Option Value} {D : DataW Value} (hB : B ≤ b) (h : w.ownsMap P M.k rawE b n D) (hm : IsMap D)
    (hp : ∀ x, M.ok x → ∀ zd, D.atKey (M.lit x) zd = match f x with | some v => .held v | none => zd) : (gmap M b n f).ok B w :=
  ⟨fun b' e => by cases e; exact ⟨hB, h.lt⟩, w, D, rfl, h, hm, hp⟩
theorem Mem.newMapG (h : Mem B w0 w L) : Mem B w0 (w.alloc (.map #[] 0)) (gmap M w.heap.size 0 (fun _ => none) :: L) := by
  refine (h.alloc_ _).cons _ (gmap_ok h.base (World.ownsMap_made w _ _ _) ⟨[], rfl⟩ (fun _ _ _ => rfl)) ?_
  intro y hy b e e'
  cases e
  have := (h.lt hy _ e').2
  omega
theorem Mem.newMapAt (M : MapT P κ) (h : Mem B w0 w L) (b : Nat) (hb : w.heap.size = b) : Mem B w0 (w.alloc (.map #[] 0)) (gmap M b 0 (fun _ => none) :: L) := by
  subst hb; exact h.newMapG
theorem gmap_look {b n : Nat} {f : κ → Option Value} (h : (gmap M b n f).ok B w) {x : κ} (hx : M.ok x) :
    (Instr.lookup M.t (.map (some b)) (M.enc x) false).run P w = .ok ((f x).getD M.zero) w ∧
    (Instr.lookup M.t (.map (some b)) (M.enc x) true).run P w = .ok (.tuple #[(f x).getD M.zero, .bool (f x).isSome]) w := by
  obtain ⟨_, _, D, ⟨es, clock, hb, F, _, rfl⟩, _, h3⟩ := gmap_own h
  have key : ∀ c, (Instr.lookup M.t (.map (some b)) (M.enc x) c).run P w = .ok (if c then .tuple #[(f x).getD M.zero, .bool (f x).isSome] else (f x).getD M.zero) w := by
    intro c
    rcases Maps.fit_look c M.keyed M.under (M.zeroOk w) hb F (M.key x hx) with ⟨hrun, _, hat⟩ | ⟨e0, y, _, _, hrun, hRv, hat, _⟩
    · have h4 := h3 x hx .nil
      rw [hat .nil] at h4
      cases hf : f x with
      | none => rw [hrun]; rfl
      | some v => rw [hf] at h4; cases h4
    · have h4 := h3 x hx .nil
      rw [hat .nil] at h4
      cases hRv
      cases hf : f x with
      | none => rw [hf] at h4; cases h4
      | some v =>
        rw [hf] at h4
        simp only [DataW.held.injEq] at h4
        rw [hrun, h4]; rfl
  exact ⟨by simpa using key false, by simpa using key true⟩

theorem Mem.wp_putG [DecidableEq κ] {ops : Array Oper} {rest : List Oper} {o : Oper} {a : Act} {Q : Exit → Act → World → Prop} (hgd : o.guard = none) (m x v : Operand) (hop : o.op = Op.mapUpdate M.t m x v)
    (h : Mem B w0 w L) (k : Nat) {b n : Nat} {f : κ → Option Value} (hk : L[k]? = some (gmap M b n f)) (hn : n ≤ 100000) (hm : a.eval m = .map (some b)) (y : κ) (z : Value) (hx : a.eval x = M.enc y) (hv : a.eval v = z) (hy : M.ok y)
    (hK : ∀ w', Mem B w0 w' (L.set k (gmap M b (n + 1) (fun u => if u = y then some z else f u))) → w.heap.size ≤ w'.heap.size → wpList P ops Q rest (a.put o.dst undef) w') : wpList P ops Q (o :: rest) a w := by
  obtain ⟨hB, _, D, h1, h2, h3⟩ := gmap_own (h.get k hk)
  refine wpList_mapUpdate_own w hgd m x v _ hop _ _ M.keyed M.under _ b n D hm h1 (by unfold maxLen; omega) _ _ _ hx hv (M.key y hy) (.held z) [] rfl ?_
  intro w' hown hg
  refine hK w' (h.turn k hk hg (gmap_ok hB hown ?_ ?_) (fun b' e => .inl e)) hg.size
  · obtain ⟨es, rfl⟩ := h2; exact ⟨_, rfl⟩
  · intro u hu zd
    by_cases e : u = y
    · subst e
      rw [if_pos rfl]
      exact atKey_put_same h2 (M.keyed.key (M.key u hu)) _ _
    · rw [if_neg e, atKey_put_other (by intro e2; first | exact e (M.inj _ _ hu hy e2) | exact e (M.inj _ _ hy hu e2).symm)]
      exact h3 u hu zd

theorem Mem.wp_delG [DecidableEq κ] {ops : Array Oper} {rest : List Oper} {o : Oper} {a : Act} {Q : Exit → Act → World → Prop} (hgd : o.guard = none) (m x : Operand) (hop : o.op = Op.call { callee := Callee.builtin Builtin.delete, args := #[m, x], argTypes := #[M.t, M.k] })
    (h : Mem B w0 w L) (k : Nat) {b n : Nat} {f : κ → Option Value} (hk : L[k]? = some (gmap M b n f)) (hm : a.eval m = .map (some b)) (y : κ) (hx : a.eval x = M.enc y) (hy : M.ok y)
    (hK : ∀ w', Mem B w0 w' (L.set k (gmap M b n (fun u => if u = y then none else f u))) → w.heap.size ≤ w'.heap.size → wpList P ops Q rest (a.put o.dst (.tuple #[])) w') : wpList P ops Q (o :: rest) a w := by
  obtain ⟨hB, _, D, h1, h2, h3⟩ := gmap_own (h.get k hk)
  refine wpList_delete_own w hgd m x _ _ hop _ M.keyed M.under _ b n D hm h1 _ _ hx (M.key y hy) ?_
  intro w' hown hg
  refine hK w' (h.turn k hk hg.grown (gmap_ok hB hown ?_ ?_) (fun b' e => .inl e)) hg.grown.size
  · obtain ⟨es, rfl⟩ := h2; exact ⟨_, rfl⟩
  · intro u hu zd
    by_cases e : u = y
    · subst e
      rw [if_pos rfl]
      exact atKey_del_same zd
    · rw [if_neg e, atKey_del_other (by intro e2; first | exact e (M.inj _ _ hu hy e2) | exact e (M.inj _ _ hy hu e2).symm)]
      exact h3 u hu zd
end
end Go.Proofs.Ytgdodbdipbomfaa

/- map[int]int; a map update as one run. -/
namespace Go.Proofs.Ytgdodbdipbomfaa
open Go.RowKit Go.Maps

/-- map[int]int. -/
theorem keyedInt' : Keyed Try.prog 3 := int_keyed Try.underlying3
def mapII : MapT Try.prog Int where
  t := 75
  k := 3
  e := 3
  enc x := .int .i64 x
  lit x := .int .i64 x
  ok := i64ok
  zero := .int .i64 0
  keyed := keyedInt'
  under := Try.underlying75
  key x hx := keyOf_int_mk Try.underlying3 (WalkArith.wf_i64 hx)
  inj x y _ _ h := by cases h; rfl
  zeroOk w := by kernel_rfl
theorem Mem.run_putG {P : Program} {κ : Type} {M : MapT P κ} {B : Nat} {w0 w : World} {L : List Ent} [DecidableEq κ] (h : Mem B w0 w L) (k : Nat) {b n : Nat} {f : κ → Option Value} (hk : L[k]? = some (gmap M b n f)) (hn : n ≤ 100000) (y : κ) (z : Value) (hy : M.ok y) :
    ∃ w', (Instr.mapUpdate M.t (.map (some b)) (M.enc y) z).run P w = .ok () w' ∧ Mem B w0 w' (L.set k (gmap M b (n + 1) (fun u => if u = y then some z else f u))) ∧ w.heap.size ≤ w'.heap.size := by
  obtain ⟨hB, _, D, h1, h2, h3⟩ := gmap_own (h.get k hk)
  obtain ⟨w', hrun, hown, hg⟩ := h1.update (d := .held z) (ps := []) M.keyed M.under (by unfold maxLen; omega) (M.key y hy) (show rawE z = some (.held z, []) from rfl)
  refine ⟨w', hrun, h.turn k hk hg (gmap_ok hB hown ?_ ?_) (fun b' e => .inl e), hg.size⟩
  · obtain ⟨es, rfl⟩ := h2; exact ⟨_, rfl⟩
  · intro u hu zd
    by_cases e : u = y
    · subst e
      rw [if_pos rfl]
      exact atKey_put_same h2 (M.keyed.key (M.key u hu)) _ _
    · rw [if_neg e, atKey_put_other (by intro e2; first | exact e (M.inj _ _ hu hy e2) | exact e (M.inj _ _ hy hu e2).symm)]
      exact h3 u hu zd
end Go.Proofs.Ytgdodbdipbomfaa

/- A box of two cells. -/
namespace Go.Proofs.Ytgdodbdipbomfaa
open Go.RowKit

theorem Mem.cells2 {B : Nat} {w0 w : World} {L : List Ent} (h : Mem B w0 w L) (k : Nat) {b : Nat} {x y : Value} {t : TypeId} (hk : L[k]? = some (ebox b #[x, y] t)) : w.cell? ⟨b, 0, none⟩ = some x ∧ w.cell? ⟨b, 1, none⟩ = some y :=
  ⟨by have := h.cell k hk 0; simpa using this, by have := h.cell k hk 1; simpa using this⟩
end Go.Proofs.Ytgdodbdipbomfaa
