/- Paths, the plain law: what is found first is found by the least way. -/
import Derived.Test.YtjeaaiklbefmmaaAt
import Derived.Test.YtjeaaiklbefmmaaF2
namespace Go.Proofs.Ytjeaaiklbefmmaa

/-- An object, from where it was come to first, and by which way. -/
structure Pe where
  obj : Int
  frm : Int
  by_ : Int
  root : Int
  way : List Int

def lexlt : List Int → List Int → Prop
  | x :: xs, y :: ys => x < y ∨ (x = y ∧ lexlt xs ys)
  | _, _ => False
def klt (r : Int) (l : List Int) (s : Int) (m : List Int) : Prop := l.length < m.length ∨ (l.length = m.length ∧ (r < s ∨ (r = s ∧ lexlt l m)))
def kle (r : Int) (l : List Int) (s : Int) (m : List Int) : Prop := (r = s ∧ l = m) ∨ klt r l s m

theorem lexlt_trans : ∀ {l m n : List Int}, lexlt l m → lexlt m n → lexlt l n
  | x :: xs, y :: ys, z :: zs, h1, h2 => by
    rcases h1 with h1 | ⟨rfl, h1⟩ <;> rcases h2 with h2 | ⟨rfl, h2⟩
    · exact .inl (Int.lt_trans h1 h2)
    · exact .inl h1
    · exact .inl h2
    · exact .inr ⟨rfl, lexlt_trans h1 h2⟩
theorem lexlt_irr : ∀ {l : List Int}, ¬ lexlt l l
  | [], h => h
  | x :: xs, h => by rcases h with h | ⟨_, h⟩; exact Int.lt_irrefl _ h; exact lexlt_irr h
theorem lexlt_snoc : ∀ {l m : List Int} (a b : Int), l.length = m.length → lexlt l m → lexlt (l ++ [a]) (m ++ [b])
  | x :: xs, y :: ys, a, b, hl, h => by
    rcases h with h | ⟨rfl, h⟩
    · exact .inl h
    · exact .inr ⟨rfl, lexlt_snoc a b (by simpa using hl) h⟩
theorem lexlt_end : ∀ (l : List Int) {a b : Int}, a < b → lexlt (l ++ [a]) (l ++ [b])
  | [], _, _, h => .inl h
  | _ :: xs, _, _, h => .inr ⟨rfl, lexlt_end xs h⟩
theorem klt_trans {r s t : Int} {l m n : List Int} (h1 : klt r l s m) (h2 : klt s m t n) : klt r l t n := by
  rcases h1 with h1 | ⟨e1, h1⟩ <;> rcases h2 with h2 | ⟨e2, h2⟩
  · exact .inl (by omega)
  · exact .inl (by omega)
  · exact .inl (by omega)
  · refine .inr ⟨by omega, ?_⟩
    rcases h1 with h1 | ⟨rfl, h1⟩ <;> rcases h2 with h2 | ⟨rfl, h2⟩
    · exact .inl (by omega)
    · exact .inl h1
    · exact .inl h2
    · exact .inr ⟨rfl, lexlt_trans h1 h2⟩
theorem klt_irr {r : Int} {l : List Int} : ¬ klt r l r l := by
  rintro (h | ⟨_, h | ⟨_, h⟩⟩)
  · omega
  · omega
  · exact lexlt_irr h
theorem klt_snoc {r s : Int} {l m : List Int} (a b : Int) (h : klt r l s m) : klt r (l ++ [a]) s (m ++ [b]) := by
  rcases h with h | ⟨e, h⟩
  · exact .inl (by simpa using h)
  · refine .inr ⟨by simpa using e, ?_⟩
    rcases h with h | ⟨rfl, h⟩
    · exact .inl h
    · exact .inr ⟨rfl, lexlt_snoc a b e h⟩
theorem klt_end (r : Int) (l : List Int) {a b : Int} (h : a < b) : klt r (l ++ [a]) r (l ++ [b]) := .inr ⟨by simp, .inr ⟨rfl, lexlt_end l h⟩⟩
theorem kle_refl (r : Int) (l : List Int) : kle r l r l := .inl ⟨rfl, rfl⟩
theorem kle_trans {r s t : Int} {l m n : List Int} (h1 : kle r l s m) (h2 : kle s m t n) : kle r l t n := by
  rcases h1 with ⟨rfl, rfl⟩ | h1
  · exact h2
  · rcases h2 with ⟨rfl, rfl⟩ | h2
    · exact .inr h1
    · exact .inr (klt_trans h1 h2)
theorem kle_snoc {r s : Int} {l m : List Int} (a : Int) (h : kle r l s m) : kle r (l ++ [a]) s (m ++ [a]) := by
  rcases h with ⟨rfl, rfl⟩ | h
  · exact kle_refl _ _
  · exact .inr (klt_snoc a a h)
theorem kle_len {r s : Int} {l m : List Int} (h : kle r l s m) : l.length ≤ m.length := by
  rcases h with ⟨rfl, rfl⟩ | h | ⟨h, _⟩ <;> omega
theorem not_klt_of_kle {r s : Int} {l m : List Int} (h : kle r l s m) : ¬ klt s m r l := by
  intro h2
  rcases h with ⟨rfl, rfl⟩ | h
  · exact klt_irr h2
  · exact klt_irr (klt_trans h h2)

/-- One more object, if it is new. -/
def ptake (E : List Pe) (v : V) (f b r : Int) (w : List Int) : List Pe :=
  if v.ref = true ∧ v.n ∉ E.map (·.obj) then E ++ [⟨v.n, f, b, r, w⟩] else E
def proots (g : G) : Nat → List Pe
  | 0 => []
  | k + 1 => ptake (proots g k) (g.roots.getD k default) (-1) k k []
/-- Within the visit of x. -/
def pvisit (g : G) (E : List Pe) (x : Pe) : Nat → List Pe
  | 0 => E
  | f + 1 => ptake (pvisit g E x f) ((fieldsAt g x.obj).getD f default) x.obj f x.root (x.way ++ [(f : Int)])
def pAt (g : G) : Nat → List Pe
  | 0 => proots g g.roots.length
  | k + 1 => pvisit g (pAt g k) ((pAt g k).getD k ⟨0, 0, 0, 0, []⟩) (fieldsAt g ((pAt g k).getD k ⟨0, 0, 0, 0, []⟩).obj).length

theorem atWay_snoc (g : G) (x : Int) : ∀ (w : List Int) (v : V), atWay g v (w ++ [x]) = (atWay g v w).bind fun u => atWay g u [x]
  | [], v => rfl
  | y :: ys, v => by
    rw [List.cons_append]
    unfold atWay
    split
    · exact atWay_snoc g x ys _
    · rfl
theorem atG_snoc (g : G) (r : Int) (w : List Int) (x : Int) : atG g r (w ++ [x]) = (atG g r w).bind fun u => atWay g u [x] := by
  unfold atG
  split
  · exact atWay_snoc g x w _
  · rfl

/-- What is known of those that were found, ahead of a place (r, w). -/
structure PInv (g : G) (E : List Pe) (r : Int) (w : List Int) : Prop where
  nodup : (E.map (·.obj)).Nodup
  rng : ∀ e ∈ E, 0 ≤ e.obj ∧ e.obj < (g.objs.length : Int)
  leads : ∀ e ∈ E, atG g e.root e.way = some ⟨true, e.obj⟩
  from_ : ∀ (i : Nat) (e : Pe), E[i]? = some e → (e.frm = -1 ∧ e.by_ = e.root ∧ e.way = [] ∧ 0 ≤ e.by_ ∧ e.by_ < 8) ∨ ∃ (j : Nat) (p : Pe), j < i ∧ E[j]? = some p ∧ e.frm = p.obj ∧ e.root = p.root ∧ e.way = p.way ++ [e.by_] ∧ 0 ≤ e.by_ ∧ e.by_ < 4
  sorted : E.Pairwise fun a b => klt a.root a.way b.root b.way
  upper : ∀ e ∈ E, klt e.root e.way r w
def Cov (E : List Pe) (y : Int) (r : Int) (w : List Int) : Prop := ∃ e ∈ E, e.obj = y ∧ kle e.root e.way r w
theorem Cov.more {E : List Pe} {y r : Int} {w : List Int} (h : Cov E y r w) (v : V) (f b r' : Int) (w' : List Int) : Cov (ptake E v f b r' w') y r w := by
  obtain ⟨e, he, h⟩ := h
  refine ⟨e, ?_, h⟩
  unfold ptake; split
  · exact List.mem_append_left _ he
  · exact he
theorem ptake_get {E : List Pe} {i : Nat} {e : Pe} (h : E[i]? = some e) (v : V) (f b r : Int) (w : List Int) : (ptake E v f b r w)[i]? = some e := by
  unfold ptake; split
  · rw [List.getElem?_append_left (List.getElem?_eq_some_iff.1 h).1]; exact h
  · exact h
theorem ptake_len (E : List Pe) (v : V) (f b r : Int) (w : List Int) : E.length ≤ (ptake E v f b r w).length := by
  unfold ptake; split <;> simp

theorem PInv.take {g : G} {E : List Pe} {r : Int} {w : List Int} (h : PInv g E r w) {v : V} {f b : Int} (hat : atG g r w = some v) (hv : v.ref = true → 0 ≤ v.n ∧ v.n < (g.objs.length : Int))
    (hfrom : (f = -1 ∧ b = r ∧ w = [] ∧ 0 ≤ b ∧ b < 8) ∨ ∃ (j : Nat) (p : Pe), E[j]? = some p ∧ f = p.obj ∧ r = p.root ∧ w = p.way ++ [b] ∧ 0 ≤ b ∧ b < 4) {r' : Int} {w' : List Int} (hlt : klt r w r' w') :
    PInv g (ptake E v f b r w) r' w' ∧ (v.ref = true → Cov (ptake E v f b r w) v.n r w) := by
  have hup : ∀ e ∈ E, klt e.root e.way r' w' := fun e he => klt_trans (h.upper e he) hlt
  unfold ptake
  split
  · rename_i hc
    obtain ⟨n, r0⟩ := v
    obtain ⟨hc1, hc2⟩ := hc
    simp only at hc1 hc2 hv hat
    subst hc1
    refine ⟨⟨?_, ?_, ?_, ?_, ?_, ?_⟩, fun _ => ⟨⟨r0, f, b, r, w⟩, by simp, rfl, kle_refl _ _⟩⟩
    · rw [List.map_append, List.nodup_append]
      refine ⟨h.nodup, by simp, ?_⟩
      intro a ha c hc e
      simp at hc
      subst hc e
      exact hc2 ha
    · intro e he
      rcases List.mem_append.1 he with he | he
      · exact h.rng e he
      · simp at he; subst he; exact hv rfl
    · intro e he
      rcases List.mem_append.1 he with he | he
      · exact h.leads e he
      · simp at he; subst he; exact hat
    · intro i e he
      rcases Nat.lt_or_ge i E.length with hi | hi
      · rw [List.getElem?_append_left hi] at he
        rcases h.from_ i e he with h1 | ⟨j, p, h1, h2, h3⟩
        · exact .inl h1
        · exact .inr ⟨j, p, h1, by rw [List.getElem?_append_left (by omega)]; exact h2, h3⟩
      · rw [List.getElem?_append_right hi] at he
        have hi0 : i - E.length = 0 := by
          rcases Nat.eq_zero_or_pos (i - E.length) with h0 | h0
          · exact h0
          · rw [List.getElem?_eq_none (by simp; omega)] at he; cases he
        rw [hi0] at he
        simp at he
        subst he
        rcases hfrom with h1 | ⟨j, p, h2, h3⟩
        · exact .inl h1
        · have hj := (List.getElem?_eq_some_iff.1 h2).1
          exact .inr ⟨j, p, by omega, by rw [List.getElem?_append_left hj]; exact h2, h3⟩
    · rw [List.pairwise_append]
      refine ⟨h.sorted, by simp, ?_⟩
      intro a ha c hc
      simp at hc
      subst hc
      exact h.upper a ha
    · intro e he
      rcases List.mem_append.1 he with he | he
      · exact hup e he
      · simp at he; subst he; exact hlt
  · rename_i hc
    refine ⟨⟨h.nodup, h.rng, h.leads, h.from_, h.sorted, hup⟩, ?_⟩
    intro hr
    have hm : v.n ∈ E.map (·.obj) := by
      rcases Classical.em (v.n ∈ E.map (·.obj)) with h1 | h1
      · exact h1
      · exact absurd ⟨hr, h1⟩ hc
    obtain ⟨e, he, heo⟩ := List.mem_map.1 hm
    exact ⟨e, he, heo, .inr (h.upper e he)⟩

theorem getD_some {α : Type} {l : List α} {k : Nat} {d x : α} (h : l[k]? = some x) : l.getD k d = x := by rw [List.getD_eq_getElem?_getD, h]; rfl
theorem Good.ref_rng {g : G} (hg : Good g) {v : V} (hv : v ∈ allV g) (hr : v.ref = true) : 0 ≤ v.n ∧ v.n < (g.objs.length : Int) := by
  have h := hg.vals v hv
  unfold badC at h
  rw [if_pos hr] at h
  split at h
  · cases h
  · omega
theorem atG_nil {g : G} {r : Nat} {v : V} (h : g.roots[r]? = some v) : atG g r [] = some v := by
  have hr := (List.getElem?_eq_some_iff.1 h).1
  unfold atG
  rw [if_pos ⟨by omega, by omega⟩]
  show some (g.roots.getD (r : Int).toNat default) = _
  rw [Int.toNat_natCast, getD_some h]

theorem proots_inv {g : G} (hg : Good g) : ∀ k, k ≤ g.roots.length → PInv g (proots g k) k [] ∧ ∀ (r : Nat) (v : V), r < k → g.roots[r]? = some v → v.ref = true → Cov (proots g k) v.n r []
  | 0, _ => ⟨⟨by simp [proots], by simp [proots], by simp [proots], by simp [proots], by simp [proots], by simp [proots]⟩, fun r v h => by omega⟩
  | k + 1, hk => by
    obtain ⟨ih, ihc⟩ := proots_inv hg k (by omega)
    obtain ⟨v, hv⟩ := get_some g.roots k (by omega)
    have hr8 := hg.roots
    have hm := roots_all g v (List.mem_of_getElem? hv)
    have he : g.roots.getD k default = v := getD_some hv
    have := ih.take (v := v) (f := -1) (b := k) (atG_nil hv) (fun hr => hg.ref_rng hm hr) (.inl ⟨rfl, rfl, rfl, by omega, by omega⟩) (r' := ((k + 1 : Nat) : Int)) (w' := []) (.inr ⟨rfl, .inl (by omega)⟩)
    show PInv g (ptake (proots g k) (g.roots.getD k default) (-1) k k []) _ _ ∧ _
    simp only [proots]
    rw [he]
    refine ⟨this.1, ?_⟩
    intro r u hr hu hur
    rcases Nat.lt_or_ge r k with h1 | h1
    · exact (ihc r u h1 hu hur).more _ _ _ _ _
    · obtain rfl : r = k := by omega
      rw [hv] at hu; cases hu
      exact this.2 hur

theorem atG_field {g : G} (_hg : Good g) {e : Pe} {r : Int} {w : List Int} (hat : atG g r w = some ⟨true, e.obj⟩) (hr : 0 ≤ e.obj ∧ e.obj < (g.objs.length : Int)) {f : Nat} {v : V} (hv : (fieldsAt g e.obj)[f]? = some v) :
    atG g r (w ++ [(f : Int)]) = some v := by
  have hf := (List.getElem?_eq_some_iff.1 hv).1
  rw [atG_snoc, hat]
  show atWay g ⟨true, e.obj⟩ [(f : Int)] = _
  unfold atWay
  rw [if_pos ⟨rfl, hr.1, hr.2, by omega, by show (f : Int) < ((fieldsAt g e.obj).length : Int); omega⟩]
  show some ((fieldsAt g e.obj).getD (f : Int).toNat default) = _
  rw [Int.toNat_natCast, getD_some hv]

def RootCov (g : G) (E : List Pe) : Prop := ∀ (r : Nat) (v : V), g.roots[r]? = some v → v.ref = true → Cov E v.n r []
def FieldCov (g : G) (E : List Pe) (x : Pe) (m : Nat) : Prop := ∀ (f : Nat) (v : V), f < m → (fieldsAt g x.obj)[f]? = some v → v.ref = true → Cov E v.n x.root (x.way ++ [(f : Int)])

theorem pvisit_inv {g : G} (hg : Good g) {E : List Pe} {x : Pe} {k : Nat} (hx : E[k]? = some x) (h : PInv g E x.root (x.way ++ [0])) (hroot : RootCov g E) (hfld : ∀ (j : Nat) (p : Pe), j < k → E[j]? = some p → FieldCov g E p (fieldsAt g p.obj).length) :
    ∀ m, m ≤ (fieldsAt g x.obj).length → PInv g (pvisit g E x m) x.root (x.way ++ [(m : Int)]) ∧ RootCov g (pvisit g E x m) ∧ FieldCov g (pvisit g E x m) x m ∧
      (∀ (j : Nat) (p : Pe), j < k → E[j]? = some p → FieldCov g (pvisit g E x m) p (fieldsAt g p.obj).length) ∧ (∀ (j : Nat) (p : Pe), E[j]? = some p → (pvisit g E x m)[j]? = some p) ∧ E.length ≤ (pvisit g E x m).length
  | 0, _ => ⟨h, hroot, fun f v h => by omega, hfld, fun _ _ h => h, Nat.le_refl _⟩
  | m + 1, hm => by
    obtain ⟨ih1, ih2, ih3, ih4, ih5, ih6⟩ := pvisit_inv hg hx h hroot hfld m (by omega)
    obtain ⟨v, hv⟩ := get_some (fieldsAt g x.obj) m (by omega)
    have he : (fieldsAt g x.obj).getD m default = v := getD_some hv
    have hxm := ih5 k x hx
    have hxE := List.mem_of_getElem? hxm
    have hf4 := fieldsAt_len hg x.obj
    have hmem := fields_all g x.obj v (List.mem_of_getElem? hv)
    have := ih1.take (v := v) (f := x.obj) (b := m) (atG_field hg (ih1.leads x hxE) (ih1.rng x hxE) hv) (fun hr => hg.ref_rng hmem hr) (.inr ⟨k, x, hxm, rfl, rfl, rfl, by omega, by omega⟩)
      (r' := x.root) (w' := x.way ++ [((m + 1 : Nat) : Int)]) (klt_end _ _ (by omega))
    simp only [pvisit]
    rw [he]
    refine ⟨this.1, fun r v h1 h2 => (ih2 r v h1 h2).more _ _ _ _ _, ?_, fun j p h1 h2 f v h3 h4 h5 => (ih4 j p h1 h2 f v h3 h4 h5).more _ _ _ _ _, fun j p h1 => ptake_get (ih5 j p h1) _ _ _ _ _, Nat.le_trans ih6 (ptake_len _ _ _ _ _ _)⟩
    intro f u hf hu hur
    rcases Nat.lt_or_ge f m with h1 | h1
    · exact (ih3 f u h1 hu hur).more _ _ _ _ _
    · obtain rfl : f = m := by omega
      rw [hv] at hu; cases hu
      exact this.2 hur

structure PAll (g : G) (E : List Pe) (k : Nat) : Prop where
  inv : ∃ r w, PInv g E r w ∧ ∀ e, E[k]? = some e → klt r w e.root (e.way ++ [0])
  root : RootCov g E
  fld : ∀ (j : Nat) (p : Pe), j < k → E[j]? = some p → FieldCov g E p (fieldsAt g p.obj).length

theorem pAt_inv {g : G} (hg : Good g) : ∀ k, (∀ j, j < k → j < (pAt g j).length) → PAll g (pAt g k) k
  | 0, _ => by
    obtain ⟨h1, h2⟩ := proots_inv hg g.roots.length (Nat.le_refl _)
    exact ⟨⟨_, _, h1, fun e _ => .inl (by simp)⟩, fun r v hv hr => h2 r v (List.getElem?_eq_some_iff.1 hv).1 hv hr, fun j p h => by omega⟩
  | k + 1, hk => by
    have ih := pAt_inv hg k (fun j hj => hk j (by omega))
    obtain ⟨x, hx⟩ := get_some _ _ (hk k (by omega))
    have he : (pAt g k).getD k ⟨0, 0, 0, 0, []⟩ = x := getD_some hx
    obtain ⟨r, w, hi, hlt⟩ := ih.inv
    have hi0 : PInv g (pAt g k) x.root (x.way ++ [0]) := ⟨hi.nodup, hi.rng, hi.leads, hi.from_, hi.sorted, fun e he => klt_trans (hi.upper e he) (hlt x hx)⟩
    obtain ⟨h1, h2, h3, h4, h5, h6⟩ := pvisit_inv hg hx hi0 ih.root ih.fld _ (Nat.le_refl (fieldsAt g x.obj).length)
    simp only [pAt]
    rw [he]
    refine ⟨⟨_, _, h1, ?_⟩, h2, ?_⟩
    · intro e hek
      have hs := List.pairwise_iff_getElem.1 h1.sorted
      obtain ⟨a1, a2⟩ := List.getElem?_eq_some_iff.1 (h5 k x hx)
      obtain ⟨b1, b2⟩ := List.getElem?_eq_some_iff.1 hek
      have := hs k (k + 1) a1 b1 (by omega)
      rw [a2, b2] at this
      exact klt_snoc _ _ this
    · intro j p hj hp
      rcases Nat.lt_or_ge j k with hj2 | hj2
      · obtain ⟨q, hq⟩ := get_some (pAt g k) j (by have := (List.getElem?_eq_some_iff.1 hx).1; omega)
        have := h5 j q hq
        rw [hp] at this; cases this
        exact h4 j p hj2 hq
      · obtain rfl : j = k := by omega
        have := h5 j x hx
        rw [hp] at this; cases this
        exact h3

/-- All that was found. -/
def PathS (g : G) (E : List Pe) : Prop := ∃ k, pAt g k = E ∧ k = E.length ∧ ∀ j, j < k → j < (pAt g j).length
theorem PathS.all {g : G} (hg : Good g) {E : List Pe} (h : PathS g E) : PAll g E E.length := by
  obtain ⟨k, rfl, hk, h⟩ := h
  have := pAt_inv hg k h
  rwa [← hk]
theorem atWay_one {g : G} {u v : V} {x : Int} (h : atWay g u [x] = some v) : u.ref = true ∧ ∃ f : Nat, x = f ∧ (fieldsAt g u.n)[f]? = some v := by
  unfold atWay at h
  split at h
  · rename_i hc
    refine ⟨hc.1, x.toNat, by omega, ?_⟩
    have hl : x.toNat < (fieldsAt g u.n).length := by omega
    unfold atWay at h
    rw [List.getD_eq_getElem?_getD, List.getElem?_eq_getElem hl] at h
    rw [List.getElem?_eq_getElem hl]
    exact h
  · cases h
/-- The least way. -/
theorem PathS.least {g : G} (hg : Good g) {E : List Pe} (h : PathS g E) : ∀ (n : Nat) (way : List Int) (r y : Int), way.length = n → atG g r way = some ⟨true, y⟩ → Cov E y r way := by
  have ha := h.all hg
  intro n
  induction n with
  | zero =>
    intro way r y hl hat
    obtain rfl : way = [] := List.eq_nil_of_length_eq_zero hl
    unfold atG at hat
    split at hat
    · rename_i hc
      have h1 : r.toNat < g.roots.length := by omega
      have : g.roots[r.toNat]? = some ⟨true, y⟩ := by
        unfold atWay at hat
        rw [List.getD_eq_getElem?_getD, List.getElem?_eq_getElem h1] at hat
        rw [List.getElem?_eq_getElem h1]; exact hat
      have h2 := ha.root r.toNat _ this rfl
      rwa [show ((r.toNat : Nat) : Int) = r by omega] at h2
    · cases hat
  | succ n ih =>
    intro way r y hl hat
    obtain ⟨w, x, rfl⟩ : ∃ w x, way = w ++ [x] := by
      rcases List.eq_nil_or_concat way with h0 | ⟨w, x, h0⟩
      · subst h0; simp at hl
      · exact ⟨w, x, by simpa using h0⟩
    rw [atG_snoc] at hat
    cases hu : atG g r w with
    | none => rw [hu] at hat; cases hat
    | some u =>
      rw [hu] at hat
      obtain ⟨hur, f, rfl, hf⟩ := atWay_one hat
      obtain ⟨ur, un⟩ := u
      simp only at hur hf
      subst hur
      obtain ⟨e, he, heo, hle⟩ := ih w r un (by simpa using hl) hu
      obtain ⟨j, hj, rfl⟩ := List.getElem_of_mem he
      have hc := ha.fld j _ hj (List.getElem?_eq_getElem hj) f ⟨true, y⟩ (by rw [heo]; exact (List.getElem?_eq_some_iff.1 hf).1) (by rw [heo]; exact hf) rfl
      obtain ⟨e2, h1, h2, h3⟩ := hc
      exact ⟨e2, h1, h2, kle_trans h3 (kle_snoc _ hle)⟩
theorem PathS.lead {g : G} (hg : Good g) {E : List Pe} (h : PathS g E) {e : Pe} (he : e ∈ E) : atG g e.root e.way = some ⟨true, e.obj⟩ := by
  obtain ⟨r, w, hi, _⟩ := (h.all hg).inv
  exact hi.leads e he

/-- How far: as many fields as the least way has. -/
theorem far_way {g : G} {l dist : List Int} (h : Far g l dist) : ∀ (n : Nat) (way : List Int) (r y : Int), way.length = n → atG g r way = some ⟨true, y⟩ → y ∈ l ∧ D (l, dist) y ≤ way.length := by
  intro n
  induction n with
  | zero =>
    intro way r y hl hat
    obtain rfl : way = [] := List.eq_nil_of_length_eq_zero hl
    unfold atG at hat
    split at hat
    · rename_i hc
      have h1 : r.toNat < g.roots.length := by omega
      have hm : (⟨true, y⟩ : V) ∈ g.roots := by
        unfold atWay at hat
        rw [List.getD_eq_getElem?_getD, List.getElem?_eq_getElem h1] at hat
        have := List.getElem_mem h1
        injection hat with hat
        rw [← hat]; exact this
      have := h.root y (mem_targets hm rfl)
      exact ⟨this.1, by simp [this.2]⟩
    · cases hat
  | succ n ih =>
    intro way r y hl hat
    obtain ⟨w, x, rfl⟩ : ∃ w x, way = w ++ [x] := by
      rcases List.eq_nil_or_concat way with h0 | ⟨w, x, h0⟩
      · subst h0; simp at hl
      · exact ⟨w, x, by simpa using h0⟩
    rw [atG_snoc] at hat
    cases hu : atG g r w with
    | none => rw [hu] at hat; cases hat
    | some u =>
      rw [hu] at hat
      obtain ⟨hur, f, rfl, hf⟩ := atWay_one hat
      obtain ⟨ur, un⟩ := u
      simp only at hur hf
      subst hur
      obtain ⟨h1, h2⟩ := ih w r un (by simpa using hl) hu
      have h3 := h.closed un h1 y (mem_targets (List.mem_of_getElem? hf) rfl)
      exact ⟨h3.1, by simp; omega⟩
theorem way_far {g : G} (hG : Good g) {l dist : List Int} (h : Far g l dist) : ∀ (n : Nat) (y : Int), y ∈ l → D (l, dist) y = n → ∃ r way, way.length = n ∧ atG g r way = some ⟨true, y⟩ := by
  intro n
  induction n with
  | zero =>
    intro y hy hD
    rcases h.par y hy with ⟨h1, _⟩ | ⟨p, hp, hpt, he⟩
    · obtain ⟨v, hv, hve⟩ := List.mem_map.1 h1
      obtain ⟨hv1, hv2⟩ := List.mem_filter.1 hv
      obtain ⟨r, hr⟩ := List.getElem?_of_mem hv1
      refine ⟨r, [], rfl, ?_⟩
      rw [atG_nil hr]
      obtain ⟨a, b⟩ := v
      simp at hv2 hve
      rw [hv2, hve]
    · have h0 : 0 ≤ D (l, dist) p := (h.inv.found (h.inv.rng p hp)).2 hp
      omega
  | succ n ih =>
    intro y hy hD
    rcases h.par y hy with ⟨_, h1⟩ | ⟨p, hp, hpt, he⟩
    · omega
    · obtain ⟨r, w, hw, hat⟩ := ih p hp (by omega)
      obtain ⟨v, hv, hve⟩ := List.mem_map.1 hpt
      obtain ⟨hv1, hv2⟩ := List.mem_filter.1 hv
      obtain ⟨f, hf⟩ := List.getElem?_of_mem hv1
      refine ⟨r, w ++ [(f : Int)], by simp [hw], ?_⟩
      rw [atG_field hG (e := ⟨p, 0, 0, 0, []⟩) hat (h.inv.rng p hp) hf]
      obtain ⟨a, b⟩ := v
      simp at hv2 hve
      rw [hv2, hve]
theorem path_far {g : G} (hG : Good g) {l dist : List Int} (h : Far g l dist) {E : List Pe} (hE : PathS g E) :
    (∀ e ∈ E, e.obj ∈ l ∧ D (l, dist) e.obj = e.way.length) ∧ ∀ y ∈ l, ∃ e ∈ E, e.obj = y := by
  refine ⟨?_, ?_⟩
  · intro e he
    have hat := hE.lead hG he
    obtain ⟨h1, h2⟩ := far_way h _ _ _ _ rfl hat
    have h0 : 0 ≤ D (l, dist) e.obj := (h.inv.found (h.inv.rng _ h1)).2 h1
    obtain ⟨r, w, hw, hat2⟩ := way_far hG h (D (l, dist) e.obj).toNat e.obj h1 (by omega)
    obtain ⟨e2, he2, heo, hle⟩ := hE.least hG _ _ _ _ rfl hat2
    obtain ⟨rr, ww, hi, _⟩ := (hE.all hG).inv
    have : e2 = e := by
      obtain ⟨i, hi1, rfl⟩ := List.getElem_of_mem he2
      obtain ⟨j, hj1, rfl⟩ := List.getElem_of_mem he
      have hn := hi.nodup
      have : i = j := (List.getElem_inj (i := i) (j := j) (h₀ := by simpa using hi1) (h₁ := by simpa using hj1) hn).1 (by simpa using heo)
      subst this; rfl
    subst this
    have := kle_len hle
    exact ⟨h1, by omega⟩
  · intro y hy
    have h0 : 0 ≤ D (l, dist) y := (h.inv.found (h.inv.rng _ hy)).2 hy
    obtain ⟨r, w, hw, hat⟩ := way_far hG h (D (l, dist) y).toNat y hy (by omega)
    obtain ⟨e, he, heo, _⟩ := hE.least hG _ _ _ _ rfl hat
    exact ⟨e, he, heo⟩
end Go.Proofs.Ytjeaaiklbefmmaa
