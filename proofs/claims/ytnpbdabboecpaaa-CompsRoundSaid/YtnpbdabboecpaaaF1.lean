/- What graph.Found's walk leans on: make of ints; the closure's contract; ranges over targets. -/
import Derived.Test.YtnpbdabboecpaaaF0
import Derived.Test.YtnpbdabboecpaaaSt
import Derived.Test.YtnpbdabboecpaaaMi
namespace Go.Proofs.Ytnpbdabboecpaaa
open Go.RowKit Go.Shelf


theorem callsIn_round {P : Program} {n r : Nat} {f : FuncId} {args : Array Value} {w : World} {R : Ending → World → Prop} (h : Calls P f args w R) : CallsIn (Fence.wide.inRound r) n P f args w R := (callsIn_wide (n := n)).2 h

/-- The closure: i is taken, if it is new. -/
theorem take_any (B : Nat) (w0 w : World) (n : Nat) (s : S) (x d : Int) (hs : SInv n s) (hx : 0 ≤ x ∧ x < n) (hn : n ≤ 24) (Bd Bl : Nat) (vd vl : Value)
    (L' : List Ent) (hM : Mem B w0 w (ebox Bd #[vd] 27 :: ebox Bl #[vl] 27 :: rowI 3 vd s.2 :: rowI 3 vl s.1 :: L')) :
    Calls Try.prog 52 #[.int .i64 x, .int .i64 d, .pointer (some ⟨Bd, 0, none⟩), .pointer (some ⟨Bl, 0, none⟩)] w fun e w' => e = .returned (.tuple #[]) ∧
      ∃ vl', Mem B w0 w' (ebox Bd #[vd] 27 :: ebox Bl #[vl'] 27 :: rowI 3 vd (take1 d s x).2 :: rowI 3 vl' (take1 d s x).1 :: L') ∧ KeepsOthers w w' := by
  obtain ⟨i, rfl⟩ : ∃ i : Nat, x = (i : Int) := ⟨x.toNat, by omega⟩
  have hi : i < s.2.length := by rw [hs.len]; omega
  obtain ⟨y, hy⟩ := get_some _ _ hi
  have hg : s.2.getD i 0 = y := by rw [List.getD_eq_getElem?_getD, hy]; rfl
  have hle := hs.length_le
  by_cases h0 : y < 0
  · have e : take1 d s i = (s.1 ++ [(i : Int)], s.2.set i d) := by unfold take1; rw [if_pos (by rw [Int.toNat_natCast, hg]; exact h0)]; rfl
    rw [e]
    exact take_new B w0 w i d y Bd Bl vd vl s.2 s.1 hy h0 (by omega) L' hM
  · have e : take1 d s i = s := by unfold take1; rw [if_neg (by rw [Int.toNat_natCast, hg]; exact h0)]
    rw [e]
    refine (take_old B w0 w i d y Bd Bl vd vl s.2 s.1 hy (by omega) L' hM).mono ?_
    rintro e w1 ⟨rfl, rfl⟩
    exact ⟨rfl, vl, hM, KeepsOthers.refl _⟩

/-- graph.Targets, its world kept shut. -/
theorem targets_opaque (n : Nat) (a : Option Addr) (len cap : Nat) (w : World) :
    CallsIn Fence.wide n Try.prog 38 #[.slice a len cap] w fun e w' => ∃ Bs, e = .returned (.func (.func 56) #[] #[.pointer (some ⟨Bs, 0, none⟩)]) ∧
      Below w.heap.size w w' ∧ Bs < w'.heap.size ∧ w'.cell? ⟨Bs, 0, none⟩ = some (.slice a len cap) := by
  refine (targets_any n a len cap w).mono ?_
  rintro e w1 ⟨rfl, rfl⟩
  exact ⟨w.heap.size, rfl, (Below.refl _ w).alloc (Nat.le_refl _) _, by simp, by simp⟩

theorem init_step (n k : Nat) (h : k < n) : (List.replicate k (-1) ++ List.replicate (n - k) (0 : Int)).set k (-1) = List.replicate (k + 1) (-1) ++ List.replicate (n - (k + 1)) 0 := by
  rw [List.set_append_right _ _ (by simp)]
  obtain ⟨m, hm⟩ : ∃ m, n - k = m + 1 := ⟨n - k - 1, by omega⟩
  rw [hm, show n - (k + 1) = m by omega]
  simp only [List.length_replicate, Nat.sub_self, List.replicate_succ, List.set_cons_zero]
  rw [show List.replicate k (-1 : Int) ++ (-1 : Int) :: List.replicate m 0 = (List.replicate k (-1 : Int) ++ [-1]) ++ List.replicate m 0 by simp]
  rw [← List.replicate_succ', List.replicate_succ]
theorem init_get (n k : Nat) (h : k < n) : (List.replicate k (-1) ++ List.replicate (n - k) (0 : Int))[k]? = some 0 := by
  rw [List.getElem?_append_right (by simp)]
  rw [List.length_replicate, Nat.sub_self, List.getElem?_replicate, if_pos (by omega)]
/-- A mark more. -/
theorem Mem.tailDef {B : Nat} {w0 w : World} {A T : List Ent} {x : Ent} (h : Mem B w0 w (x :: (A ++ T))) : Mem B w0 w (A ++ x :: T) := h.perm List.perm_middle
/-- What Found holds. -/
@[reducible] def fl (Bd Bl : Nat) (vd vl : Value) (s : S) (L : List Ent) : List Ent := ebox Bd #[vd] 27 :: ebox Bl #[vl] 27 :: rowI 3 vd s.2 :: rowI 3 vl s.1 :: L
theorem calm_defs {B : Nat} (Ds : List Nat) (h : ∀ D ∈ Ds, D < B) : ∀ x ∈ Ds.map edef, x.Calm B := by
  intro x hx; obtain ⟨D, hD, rfl⟩ := List.mem_map.1 hx; exact edef_calm (h D hD)
theorem calm_append {B : Nat} {A T : List Ent} (h1 : ∀ x ∈ A, x.Calm B) (h2 : ∀ x ∈ T, x.Calm B) : ∀ x ∈ A ++ T, x.Calm B := by
  intro x hx; rcases List.mem_append.1 hx with h | h
  · exact h1 x h
  · exact h2 x h
theorem visit_eq {g : G} {s : S} {k i : Nat} {ob : List V} (hx : s.1[k]? = some (i : Int)) (hob : g.objs[i]? = some ob) : visitTo s k (targets ob) = visit g s k := by
  unfold visit fieldsAt
  have e : s.1.getD k 0 = i := by rw [List.getD_eq_getElem?_getD, hx]; rfl
  rw [e, Int.toNat_natCast, List.getD_eq_getElem?_getD, hob]; rfl
theorem visitTo_len (k : Nat) : ∀ (pre : List Int) (s : S), s.1.length ≤ (visitTo s k pre).1.length := by
  intro pre
  induction pre with
  | nil => intro s; exact Nat.le_refl _
  | cons a pre ih => intro s; exact Nat.le_trans (take1_len _ s a) (ih _)
theorem Mem.defs_lt {B : Nat} {w0 W : World} {L : List Ent} {Ds : List Nat} (h : Mem B w0 W L) (hs : ∀ D ∈ Ds, edef D ∈ L) : ∀ D ∈ Ds, D < W.heap.size := fun D hD => (h.lt (hs D hD) D rfl).2
end Go.Proofs.Ytnpbdabboecpaaa
