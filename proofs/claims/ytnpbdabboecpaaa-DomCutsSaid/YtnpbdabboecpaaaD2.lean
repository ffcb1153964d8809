/- Who keeps whom: what the grown tree says. Plain. -/
import Derived.Test.YtnpbdabboecpaaaD0
import Derived.Test.YtnpbdabboecpaaaD1
namespace Go.Proofs.Ytnpbdabboecpaaa.Dom
open Go.Proofs.Ytnpbdabboecpaaa

def upAt (up : List Int) (x : Int) : Int := up.getD x.toNat (-2)
theorem upAt_set {up : List Int} {i : Nat} (hi : i < up.length) (m : Int) {y : Int} (hy : 0 ≤ y) : upAt (up.set i m) y = updU (upAt up) (i : Int) m y := by
  show (up.set i m).getD y.toNat (-2) = if y = (i : Int) then m else up.getD y.toNat (-2)
  rw [List.getD_eq_getElem?_getD, List.getD_eq_getElem?_getD, List.getElem?_set]
  by_cases h : y = (i : Int)
  · rw [if_pos h, if_pos (by omega), if_pos hi]; rfl
  · rw [if_neg h, if_neg (by omega)]
/-- The rows of who comes ahead of each. -/
def FromOk (g : G) (order : List Int) (frm : List (List Int)) : Prop :=
  frm.length = g.objs.length ∧ ∀ x : Int, 0 ≤ x → x < g.objs.length → ∀ j, j ∈ frm.getD x.toNat [] ↔ (j = -1 ∧ x ∈ targets g.roots) ∨ (j ∈ order ∧ x ∈ targets (fieldsAt g j))
/-- An order in which each is found behind one that leads to it. -/
structure OrdOk (g : G) (order : List Int) : Prop where
  nodup : order.Nodup
  mem : ∀ i, i ∈ order ↔ Rch g i
  range : ∀ i ∈ order, 0 ≤ i ∧ i < g.objs.length
  ahead : ∀ i ∈ order, i ∈ targets g.roots ∨ ∃ j ∈ order, order.idxOf j < order.idxOf i ∧ i ∈ targets (fieldsAt g j)
def dgOf (order : List Int) (frm : List (List Int)) : Dg := ⟨fun x => x ∈ order, fun x => order.idxOf x, fun x => frm.getD x.toNat []⟩
def DmOf (g : G) (v x : Int) : Prop := 0 ≤ v ∧ ¬ Av g (fun y => y = v) x ∧ v ≠ x
theorem idx_inj {l : List Int} {x y : Int} (hx : x ∈ l) (h : l.idxOf x = l.idxOf y) (hy : y ∈ l) : x = y := by
  have h1 := List.getElem_idxOf (List.idxOf_lt_length_of_mem hx)
  have h2 := List.getElem_idxOf (List.idxOf_lt_length_of_mem hy)
  rw [← h1, ← h2]
  simp only [h]
theorem dg_ok {g : G} {order : List Int} {frm : List (List Int)} (ho : OrdOk g order) (hf : FromOk g order frm) : (dgOf order frm).Ok := by
  refine ⟨fun x hx => (ho.range x hx).1, fun x y hx hy h => idx_inj hx h hy, fun x hx j hj => ?_, fun x hx => ?_⟩
  · obtain ⟨h0, h1⟩ := ho.range x hx
    rcases (hf.2 x h0 h1 j).1 hj with ⟨h, _⟩ | ⟨h, _⟩
    · exact .inl h
    · exact .inr h
  · obtain ⟨h0, h1⟩ := ho.range x hx
    rcases ho.ahead x hx with h | ⟨j, hj, h2, h3⟩
    · exact ⟨-1, (hf.2 x h0 h1 _).2 (.inl ⟨rfl, h⟩), .inl rfl⟩
    · exact ⟨j, (hf.2 x h0 h1 _).2 (.inr ⟨hj, h3⟩), .inr ⟨hj, h2⟩⟩
theorem dm_ok {g : G} {order : List Int} {frm : List (List Int)} (ho : OrdOk g order) (hf : FromOk g order frm) : DmOk (dgOf order frm) (DmOf g) := by
  rintro v x hx ⟨hv0, hav, hne⟩
  obtain ⟨h0, h1⟩ := ho.range x hx
  refine ⟨hv0, fun j hj => ?_⟩
  rcases (hf.2 x h0 h1 j).1 hj with ⟨h, h2⟩ | ⟨h, h2⟩
  · obtain ⟨y, hy, hyr, rfl⟩ := mem_targets_iff.1 h2
    exact absurd (Av.root hy hyr (fun e => hne e.symm)) hav
  · obtain ⟨y, hy, hyr, rfl⟩ := mem_targets_iff.1 h2
    refine ⟨fun e => ?_, ?_⟩
    · have := (ho.range j h).1; omega
    · by_cases e : v = j
      · exact .inl e
      · exact .inr ⟨hv0, fun ha => hav (.step ha hy hyr (fun e2 => hne e2.symm)), e⟩
/-- What the tree tells. -/
structure GrowS (g : G) (up : List Int) : Prop where
  len : up.length = g.objs.length
  out : ∀ x : Int, 0 ≤ x → x < g.objs.length → (upAt up x = -2 ↔ ¬ Rch g x)
  rank : ∃ R : Int → Nat, (∀ x, Rch g x → R x < g.objs.length) ∧ ∀ x, Rch g x → upAt up x = -1 ∨ (Rch g (upAt up x) ∧ R (upAt up x) < R x)
  anc : ∀ x v, Rch g x → 0 ≤ v → (Anc (upAt up) v x ↔ ¬ Av g (fun y => y = v) x)
/-- The tree when nothing turned any more. -/
theorem grow_done {g : G} {order : List Int} {frm : List (List Int)} {up : List Int} (ho : OrdOk g order) (hf : FromOk g order frm) (hlen : up.length = g.objs.length)
    (h : Inv (dgOf order frm) (DmOf g) (upAt up) order.length) (hfix : ∀ x ∈ order, Mt (dgOf order frm) (upAt up) (frm.getD x.toNat []) (upAt up x)) (hout : ∀ x : Int, 0 ≤ x → x < g.objs.length → x ∉ order → upAt up x = -2) : GrowS g up := by
  have hlow : ∀ x ∈ order, upAt up x ≠ -2 := fun x hx => h.low x hx (List.idxOf_lt_length_of_mem hx)
  have hcons : ∀ x ∈ order, ∀ j ∈ frm.getD x.toNat [], Cons (upAt up) j := by
    intro x hx j hj ⟨h0, h1⟩
    rcases (dg_ok ho hf).prein x hx j hj with h2 | h2
    · omega
    · exact hlow j h2 h1
  have heq : ∀ x ∈ order, ∀ c, Anc (upAt up) c (upAt up x) ↔ ∀ j ∈ frm.getD x.toNat [], Anc (upAt up) c j := by
    intro x hx c
    rcases hfix x hx with ⟨_, h1⟩ | ⟨_, _, h1⟩
    · exact absurd h1 (hlow x hx)
    · exact (h1 c).trans ⟨fun h2 j hj => h2 j hj (hcons x hx j hj), fun h2 j hj _ => h2 j hj⟩
  refine ⟨hlen, fun x h0 h1 => ⟨fun h2 hr => hlow x ((ho.mem x).2 hr) h2, fun hr => hout x h0 h1 fun hm => hr ((ho.mem x).1 hm)⟩, ⟨fun x => order.idxOf x, fun x hx => ?_, fun x hx => ?_⟩, fun x v hx hv => ?_⟩
  · have h1 := List.idxOf_lt_length_of_mem ((ho.mem x).2 hx)
    have h2 : order.length ≤ g.objs.length := by
      have h3 := ho.nodup.length_le_of_subset (l₂ := (List.range g.objs.length).map fun k : Nat => (k : Int)) fun y hy => by
        have h4 := ho.range y hy
        exact List.mem_map.2 ⟨y.toNat, List.mem_range.2 (by omega), by omega⟩
      simpa using h3
    show order.idxOf x < _
    omega
  · have hxo := (ho.mem x).2 hx
    rcases h.st x ⟨hxo, hlow x hxo⟩ with h1 | ⟨h1, h2⟩
    · exact .inl h1
    · exact .inr ⟨(ho.mem _).1 h1.1, h2⟩
  · have hxo := (ho.mem x).2 hx
    constructor
    · intro ha hav
      revert ha
      have : ∀ y, Av g (fun z => z = v) y → ¬ Anc (upAt up) v y := by
        intro y hy
        induction hy with
        | @root y h1 h2 h3 =>
          intro ha
          have hyo : y.n ∈ order := (ho.mem _).2 (.root h1 h2 (fun h => h))
          obtain ⟨h0, h4⟩ := ho.range _ hyo
          rcases anc_cases ha with h5 | h5
          · exact h3 h5.symm
          · exact no_anc (by omega) ((heq _ hyo v).1 h5 (-1) ((hf.2 _ h0 h4 _).2 (.inl ⟨rfl, mem_targets_iff.2 ⟨_, h1, h2, rfl⟩⟩)))
        | @step i y hi h1 h2 h3 ih =>
          intro ha
          have hio : i ∈ order := (ho.mem _).2 (hi.mono (fun _ h => h.elim))
          have hyo : y.n ∈ order := (ho.mem _).2 (.step ((ho.mem _).1 hio) h1 h2 (fun h => h))
          obtain ⟨h0, h4⟩ := ho.range _ hyo
          rcases anc_cases ha with h5 | h5
          · exact h3 h5.symm
          · exact ih ((heq _ hyo v).1 h5 i ((hf.2 _ h0 h4 _).2 (.inr ⟨hio, mem_targets_iff.2 ⟨_, h1, h2, rfl⟩⟩)))
      exact this x hav
    · intro hav
      by_cases e : v = x
      · subst e; exact .here hv
      · exact .up (ho.range x hxo).1 (h.sem x v ⟨hxo, hlow x hxo⟩ ⟨hv, hav, e⟩)
/-- There is one tree alone. -/
theorem GrowS.unique {g : G} {u1 u2 : List Int} (h1 : GrowS g u1) (h2 : GrowS g u2) (hr : ∀ x, Rch g x → 0 ≤ x) : u1 = u2 := by
  have key : ∀ {a b : List Int}, GrowS g a → GrowS g b → ∀ x, Rch g x → 0 ≤ upAt a x → Anc (upAt b) (upAt a x) (upAt b x) ∧ upAt b x ≠ -1 := by
    intro a b ha hb x hx h0
    obtain ⟨R, _, hR⟩ := ha.rank
    have h3 : Anc (upAt a) (upAt a x) x := .up (hr x hx) (.here h0)
    have h4 := (hb.anc x _ hx h0).2 ((ha.anc x _ hx h0).1 h3)
    rcases anc_cases h4 with h5 | h5
    · rcases hR x hx with h6 | ⟨_, h6⟩
      · omega
      · rw [h5] at h6; omega
    · exact ⟨h5, fun e => by rw [e] at h5; exact no_anc (by omega) h5⟩
  have hrch : ∀ {a : List Int}, GrowS g a → ∀ x, Rch g x → upAt a x ≠ -1 → Rch g (upAt a x) := by
    intro a ha x hx hne
    obtain ⟨R, _, hR⟩ := ha.rank
    rcases hR x hx with h6 | ⟨h6, _⟩
    · exact absurd h6 hne
    · exact h6
  have hsame : ∀ x, Rch g x → upAt u1 x = upAt u2 x := by
    intro x hx
    by_cases e1 : upAt u1 x = -1
    · by_cases e2 : upAt u2 x = -1
      · rw [e1, e2]
      · have := key h2 h1 x hx (hr _ (hrch h2 x hx e2))
        exact absurd e1 this.2
    · have r1 := hrch h1 x hx e1
      obtain ⟨k1, e2⟩ := key h1 h2 x hx (hr _ r1)
      have r2 := hrch h2 x hx e2
      obtain ⟨k2, _⟩ := key h2 h1 x hx (hr _ r2)
      -- both stand on the way up from the other one, in the first tree
      have k3 := (h1.anc _ _ r2 (hr _ r1)).2 ((h2.anc _ _ r2 (hr _ r1)).1 k1)
      obtain ⟨R, _, hR⟩ := h1.rank
      have lt : ∀ {c y : Int}, Anc (upAt u1) c y → Rch g y → c = y ∨ R c < R y := by
        intro c y ha
        induction ha with
        | here _ => exact fun _ => .inl rfl
        | @up y h0 ha ih =>
          intro hy
          rcases hR y hy with h6 | ⟨h6, h7⟩
          · rw [h6] at ha; exact absurd ha (no_anc (by omega))
          · rcases ih h6 with rfl | h8
            · exact .inr h7
            · exact .inr (by omega)
      rcases lt k3 r2 with h6 | h6
      · exact h6
      · rcases lt k2 r1 with h7 | h7
        · exact h7.symm
        · omega
  apply List.ext_getElem (by rw [h1.len, h2.len])
  intro i hi hi2
  have hx0 : (0 : Int) ≤ (i : Int) := by omega
  have hxn : (i : Int) < g.objs.length := by rw [h1.len] at hi; omega
  have e : ∀ {a : List Int} (h : i < a.length), upAt a (i : Int) = a[i] := by
    intro a h
    unfold upAt
    rw [Int.toNat_natCast, List.getD_eq_getElem?_getD, List.getElem?_eq_getElem h]; rfl
  rw [← e hi, ← e hi2]
  by_cases hr1 : Rch g (i : Int)
  · exact hsame _ hr1
  · rw [(h1.out _ hx0 hxn).2 hr1, (h2.out _ hx0 hxn).2 hr1]
end Go.Proofs.Ytnpbdabboecpaaa.Dom
