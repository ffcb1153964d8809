/- A map from int64 to int64 of the call's own. -/
import Derived.Test.YtdmgpiimacnapaaG1
import Derived.Maps.Own
import Derived.Maps.OwnOps
import Derived.Maps.Views
import Derived.WalkArith
namespace Go.Proofs.Ytdmgpiimacnapaa
open Go.RowKit Go.Maps

theorem keyedI : Keyed Try.prog 2 := int_keyed Try.underlying2
theorem zeroI (w : World) : (zeroValue 2).run Try.prog w = .ok (.int .i64 0) w := by kernel_rfl

/-- Block b is a map of at most n entries; it tells p y at y. -/
def emap (b n : Nat) (p : Int → Int) : Ent := ⟨some b, fun o => ∃ (wv : World) (D : DataW Unit), wv.heap[b]? = o ∧ wv.ownsMap Try.prog 2 (plainElem Try.prog 2) b n D ∧ IsMap D ∧
  ∀ y, i64ok y → D.atKey (.int .i64 y) (.lit (.int .i64 0)) = .lit (.int .i64 (p y))⟩
theorem emap_own {B b n : Nat} {p : Int → Int} {w : World} (h : (emap b n p).ok B w) : B ≤ b ∧ b < w.heap.size ∧ ∃ D : DataW Unit, w.ownsMap Try.prog 2 (plainElem Try.prog 2) b n D ∧ IsMap D ∧
    ∀ y, i64ok y → D.atKey (.int .i64 y) (.lit (.int .i64 0)) = .lit (.int .i64 (p y)) := by
  obtain ⟨h1, wv, D, h2, ⟨es, clock, hb, r⟩, h4, h5⟩ := h
  obtain ⟨a, c⟩ := h1 b rfl
  refine ⟨a, c, D, ⟨es, clock, ?_, r⟩, h4, h5⟩
  have : w.heap[b]? = wv.heap[b]? := h2.symm
  rw [this]; exact hb
theorem emap_ok {B b n : Nat} {p : Int → Int} {w : World} {D : DataW Unit} (hB : B ≤ b) (h : w.ownsMap Try.prog 2 (plainElem Try.prog 2) b n D) (hm : IsMap D)
    (hp : ∀ y, i64ok y → D.atKey (.int .i64 y) (.lit (.int .i64 0)) = .lit (.int .i64 (p y))) : (emap b n p).ok B w :=
  ⟨fun b' e => by cases e; exact ⟨hB, h.lt⟩, w, D, rfl, h, hm, hp⟩

section
variable {B : Nat} {w0 w : World} {L : List Ent}

theorem Mem.newMap (h : Mem B w0 w L) : Mem B w0 (w.alloc (.map #[] 0)) (emap w.heap.size 0 (fun _ => 0) :: L) := by
  refine (h.alloc_ _).cons _ (emap_ok h.base (World.ownsMap_made w _ _ _) ⟨[], rfl⟩ (fun _ _ => rfl)) ?_
  intro y hy b e e'
  cases e
  have := (h.lt hy _ e').2
  omega
theorem look_ok {b n : Nat} {p : Int → Int} (h : (emap b n p).ok B w) {y : Int} (hy : i64ok y) :
    (Instr.lookup 114 (.map (some b)) (.int .i64 y) false).run Try.prog w = .ok (.int .i64 (p y)) w := by
  obtain ⟨_, _, D, h1, _, h3⟩ := emap_own h
  obtain ⟨c, hrun, hat, _⟩ := h1.lookup_int keyedI Try.underlying114 Try.underlying2 (zeroI w) (keyOf_int_mk Try.underlying2 (WalkArith.wf_i64 hy))
  rw [h3 y hy] at hat
  cases hat
  exact hrun
theorem Mem.look (h : Mem B w0 w L) (k : Nat) {b n : Nat} {p : Int → Int} (hk : L[k]? = some (emap b n p)) {y : Int} (hy : i64ok y) :
    (Instr.lookup 114 (.map (some b)) (.int .i64 y) false).run Try.prog w = .ok (.int .i64 (p y)) w := look_ok (h.get k hk) hy

theorem Mem.wp_put {ops : Array Oper} {rest : List Oper} {o : Oper} {a : Act} {Q : Exit → Act → World → Prop} (hgd : o.guard = none) (m x v : Operand) (hop : o.op = Op.mapUpdate 114 m x v)
    (h : Mem B w0 w L) (k : Nat) {b n : Nat} {p : Int → Int} (hk : L[k]? = some (emap b n p)) (hn : n ≤ 1000) (hm : a.eval m = .map (some b)) (y z : Int) (hx : a.eval x = .int .i64 y) (hv : a.eval v = .int .i64 z) (hy : i64ok y) (hz : i64ok z)
    (hK : ∀ w', Mem B w0 w' (L.set k (emap b (n + 1) (fun u => if u = y then z else p u))) → wpList Try.prog ops Q rest (a.put o.dst undef) w') : wpList Try.prog ops Q (o :: rest) a w := by
  obtain ⟨hB, _, D, h1, h2, h3⟩ := emap_own (h.get k hk)
  refine wpList_mapUpdate_own w hgd m x v _ hop _ _ keyedI Try.underlying114 _ b n D hm h1 (by unfold maxLen; omega) _ _ _ hx hv (keyOf_int_mk Try.underlying2 (WalkArith.wf_i64 hy)) _ []
    (plainElem_int Try.underlying2 (WalkArith.wf_i64 hz)) ?_
  intro w' hown hg
  refine hK w' (h.turn k hk hg (emap_ok hB hown ?_ ?_) (fun b' e => .inl e))
  · obtain ⟨es, rfl⟩ := h2; exact ⟨_, rfl⟩
  · intro u hu
    by_cases e : u = y
    · subst e
      rw [if_pos rfl]
      exact atKey_put_same h2 (by simp [WideAt.IsKeyLit]) _ _
    · rw [if_neg e, atKey_put_other (by intro e2; cases e2; exact e rfl)]
      exact h3 u hu
end
end Go.Proofs.Ytdmgpiimacnapaa
