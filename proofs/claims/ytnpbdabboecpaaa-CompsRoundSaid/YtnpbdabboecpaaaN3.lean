/- What the search for components holds, as lists. Plain. -/
import Derived.Test.YtnpbdabboecpaaaN1
import Derived.Test.YtnpbdabboecpaaaD9
import Derived.Test.YtnpbdabboecpaaaTy
import Derived.Test.YtnpbdabboecpaaaLi
namespace Go.Proofs.Ytnpbdabboecpaaa
open Go.RowKit

namespace Tarj
def rd (l : List Int) (d : Int) : Int → Int := fun x => if 0 ≤ x then l.getD x.toNat d else d
theorem rd_nat (l : List Int) (d : Int) (i : Nat) : rd l d (i : Int) = l.getD i d := by unfold rd; rw [if_pos (by omega), Int.toNat_natCast]
theorem rd_some {l : List Int} {d : Int} {i : Nat} {x : Int} (h : l[i]? = some x) : rd l d (i : Int) = x := by rw [rd_nat, List.getD_eq_getElem?_getD, h]; rfl
theorem rd_set (l : List Int) (d v : Int) {i : Nat} (hi : i < l.length) : rd (l.set i v) d = upd (rd l d) (i : Int) v := by
  funext x
  unfold upd
  by_cases e : x = (i : Int)
  · subst e
    rw [if_pos rfl, rd_nat, List.getD_eq_getElem?_getD, List.getElem?_set_self hi]; rfl
  · rw [if_neg e]
    unfold rd
    split
    · rw [List.getD_eq_getElem?_getD, List.getD_eq_getElem?_getD, List.getElem?_set_ne (by omega)]
    · rfl
theorem rd_out {l : List Int} {d x : Int} (h : rd l d x ≠ d) : 0 ≤ x ∧ x < l.length := by
  unfold rd at h
  split at h
  · rename_i h0
    refine ⟨h0, ?_⟩
    rcases Nat.lt_or_ge x.toNat l.length with h1 | h1
    · omega
    · rw [List.getD_eq_getElem?_getD, List.getElem?_eq_none h1] at h; exact absurd rfl h
  · exact absurd rfl h
theorem rd_mem {l : List Int} {d x : Int} (h : 0 ≤ x ∧ x < l.length) : rd l d x ∈ l := by
  unfold rd
  rw [if_pos h.1]
  have : x.toNat < l.length := by omega
  rw [List.getD_eq_getElem?_getD, List.getElem?_eq_getElem this]
  exact List.getElem_mem this
theorem rd_rep (n : Nat) (d e : Int) (h : d = e) : rd (List.replicate n d) e = fun _ => e := by
  subst h
  funext x
  unfold rd
  split
  · rw [List.getD_eq_getElem?_getD, List.getElem?_replicate]; split <;> rfl
  · rfl

structure CS where
  low : List Int
  at_ : List Int
  comp : List Int
  stack : List Int
  vst : Value
  va : Value
  fs : List (Value × List Int)
def CS.ts (s : CS) : TS := ⟨rd s.at_ 0, rd s.low 0, rd s.comp (-1), s.stack, s.fs.map (·.2)⟩
structure CS.Ok (n : Nat) (s : CS) : Prop where
  low : s.low.length = n
  at_ : s.at_.length = n
  comp : s.comp.length = n
def EG (g : G) (x y : Int) : Prop := 0 ≤ x ∧ y ∈ targets (fieldsAt g x)
/-- All of a list are given one number. -/
def setAll (comp : List Int) (c : List Int) (v : Int) : List Int := c.foldl (fun l j => l.set j.toNat v) comp
theorem setAll_len (c : List Int) (v : Int) : ∀ comp : List Int, (setAll comp c v).length = comp.length := by
  induction c with
  | nil => intro _; rfl
  | cons a c ih => intro comp; unfold setAll; rw [List.foldl_cons]; exact (ih _).trans (by simp)
theorem setAll_snoc (comp c : List Int) (x v : Int) : setAll comp (c ++ [x]) v = (setAll comp c v).set x.toNat v := by simp [setAll]
theorem setAll_rd (v d : Int) : ∀ (c comp : List Int), (∀ x ∈ c, 0 ≤ x ∧ x < comp.length) → rd (setAll comp c v) d = fun x => if x ∈ c then v else rd comp d x := by
  intro c
  induction c with
  | nil => intro comp _; funext x; simp [setAll]
  | cons a c ih =>
    intro comp h
    have ha := h a List.mem_cons_self
    have e : (a.toNat : Int) = a := by omega
    have h2 : setAll comp (a :: c) v = setAll (comp.set a.toNat v) c v := rfl
    rw [h2, ih _ (fun x hx => by rw [List.length_set]; exact h x (List.mem_cons_of_mem _ hx)), rd_set comp d v (by omega), e]
    funext x
    unfold upd
    by_cases hxc : x ∈ c
    · rw [if_pos hxc, if_pos (List.mem_cons_of_mem _ hxc)]
    · rw [if_neg hxc]
      by_cases hxa : x = a
      · subst hxa; rw [if_pos rfl, if_pos List.mem_cons_self]
      · rw [if_neg hxa, if_neg (by simp [hxa, hxc])]
theorem ts_popped (s : CS) (k : Nat) (c : List Int) (vst va vc : Value) (hc : ∀ x ∈ c, 0 ≤ x ∧ x < s.comp.length) :
    (⟨s.low, s.at_, setAll s.comp c (s.fs.length : Int), s.stack.take k, vst, va, s.fs ++ [(vc, c)]⟩ : CS).ts = popped s.ts k c := by
  unfold CS.ts popped
  simp only [TS.mk.injEq, List.map_append, List.map_cons, List.map_nil, true_and]
  refine ⟨?_, trivial⟩
  rw [setAll_rd _ _ _ _ hc]
  funext x
  simp
theorem ts_push (s : CS) (i : Nat) (t : Int) (vst : Value) (hi : i < s.at_.length) (hi2 : i < s.low.length) :
    (⟨s.low.set i t, s.at_.set i t, s.comp, s.stack ++ [(i : Int)], vst, s.va, s.fs⟩ : CS).ts = push s.ts (i : Int) t := by
  unfold CS.ts push
  rw [rd_set _ _ _ hi, rd_set _ _ _ hi2]
theorem ts_setLow (s : CS) (i : Nat) (t : Int) (hi2 : i < s.low.length) :
    (⟨s.low.set i t, s.at_, s.comp, s.stack, s.vst, s.va, s.fs⟩ : CS).ts = setLow s.ts (i : Int) t := by
  unfold CS.ts setLow
  rw [rd_set _ _ _ hi2]
end Tarj

/-- What stands around the search. -/
structure CompEnv where
  g : G
  w0 : World
  vo : Value
  vr : Value
  Bs : Nat
  gL : Nat
  gA : Nat
  gC : Nat
  cC : Nat
structure CompEnv.Ok (E : CompEnv) : Prop where
  good : Good E.g
  objs : IsObjs E.w0 E.vo E.g.objs
@[reducible] def CompEnv.vL (E : CompEnv) : Value := .slice (some ⟨E.gL, 0, none⟩) E.g.objs.length E.g.objs.length
@[reducible] def CompEnv.vA (E : CompEnv) : Value := .slice (some ⟨E.gA, 0, none⟩) E.g.objs.length E.g.objs.length
@[reducible] def CompEnv.vC (E : CompEnv) : Value := .slice (some ⟨E.gC, 0, none⟩) E.g.objs.length E.cC
@[reducible] def CompEnv.own (E : CompEnv) (s : Tarj.CS) (L' : List Ent) : List Ent :=
  ebox E.Bs #[E.vo, E.vr, E.vL, E.vA, s.vst, E.vC, s.va] 66 :: rowI 3 E.vL s.low :: rowI 3 E.vA s.at_ :: rowI 3 E.vC s.comp :: rowI 3 s.vst s.stack :: rowR s.va (s.fs.map (·.1)) :: (L' ++ rowsI s.fs)
def WalkSays (E : CompEnv) (s : Tarj.CS) (i : Int) (gray : Int → Prop) (L' : List Ent) (w w' : World) (e : Ending) : Prop :=
  ∃ s', e = .returned (.tuple #[]) ∧ Tarj.Walked (Tarj.EG E.g) E.g.objs.length s.ts s'.ts gray i ∧ s'.Ok E.g.objs.length ∧ Mem E.w0.heap.size E.w0 w' (E.own s' L') ∧ KeepsOthers w w'
def WalkC (E : CompEnv) (m : Nat) : Prop := ∀ (s : Tarj.CS) (i : Nat) (gray : Int → Prop) (w : World) (L' : List Ent), s.Ok E.g.objs.length → Tarj.TInv (Tarj.EG E.g) E.g.objs.length s.ts gray → s.at_[i]? = some 0 →
  (∀ x, gray x → Tarj.Lead (Tarj.EG E.g) x (i : Int)) → Tarj.zer s.ts.at_ E.g.objs.length ≤ m →
  Mem E.w0.heap.size E.w0 w (E.own s L') → CallsIn Fence.wide 10 Try.prog 55 #[.pointer (some ⟨E.Bs, 0, none⟩), .int .i64 (i : Int)] w fun e w' => WalkSays E s (i : Int) gray L' w w' e
end Go.Proofs.Ytnpbdabboecpaaa
