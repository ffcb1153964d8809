/- Maps of the call's own, of any element: what lies at each key, value by value. -/
import Derived.Test.YtmmcjjklmcfegaaBase1
import Derived.Maps.Own
import Derived.Maps.OwnOps
import Derived.Maps.OwnSet
import Derived.Maps.Views
import Derived.WalkArith
namespace Go.Proofs.Ytmmcjjklmcfegaa
open Go.RowKit Go.Maps

/-- A map's type, and how keys are spelled. -/
structure MapT (P : Program) (κ : Type) where
  t : TypeId
  k : TypeId
  e : TypeId
  enc : κ → Value
  lit : κ → Lit
  ok : κ → Prop
  zero : Value
  keyed : Keyed P k
  under : P.underlying t = some (.map k e)
  key : ∀ x, ok x → keyOf P k (enc x) = some (lit x)
  inj : ∀ x y, ok x → ok y → lit x = lit y → x = y
  zeroOk : ∀ w : World, (zeroValue e).run P w = .ok zero w

def rawE (v : Value) : Option (DataW Value × List MemPlace) := some (.held v, [])
/-- Block b is a map of at most n entries; f tells what lies at each key. -/
def gmap {P : Program} {κ : Type} (M : MapT P κ) (b n : Nat) (f : κ → Option Value) : Ent := ⟨some b, fun o => ∃ (wv : World) (D : DataW Value), wv.heap[b]? = o ∧ wv.ownsMap P M.k rawE b n D ∧ IsMap D ∧
  ∀ x, M.ok x → ∀ zd, D.atKey (M.lit x) zd = match f x with | some v => .held v | none => zd⟩

section
variable {P : Program} {κ : Type} {M : MapT P κ} {B : Nat} {w0 w : World} {L : List Ent}
theorem gmap_own {b n : Nat} {f : κ → Option Value} (h : (gmap M b n f).ok B w) : B ≤ b ∧ b < w.heap.size ∧ ∃ D : DataW Value, w.ownsMap P M.k rawE b n D ∧ IsMap D ∧
    ∀ x, M.ok x → ∀ zd, D.atKey (M.lit x) zd = match f x with | some v => .held v | none => zd := by
  obtain ⟨h1, wv, D, h2, ⟨es, clock, hb, r⟩, h4, h5⟩ := h
  obtain ⟨a, c⟩ := h1 b rfl
  refine ⟨a, c, D, ⟨es, clock, ?_, r⟩, h4, h5⟩
  have : w.heap[b]? = wv.heap[b]? := h2.symm
  rw [this]; exact hb
theorem gmap_ok {b n : Nat} {f : κ → Option Value} {D : DataW Value} (hB : B ≤ b) (h : w.ownsMap P M.k rawE b n D) (hm : IsMap D)
    (hp : ∀ x, M.ok x → ∀ zd, D.atKey (M.lit x) zd = match f x with | some v => .held v | none => zd) : (gmap M b n f).ok B w :=
  ⟨fun b' e => by cases e; exact ⟨hB, h.lt⟩, w, D, rfl, h, hm, hp⟩
theorem Mem.newMapG (h : Mem B w0 w L) : Mem B w0 (w.alloc (.map #[] 0)) (gmap M w.heap.size 0 (fun _ => none) :: L) := by
  refine (h.alloc_ _).cons _ (gmap_ok h.base (World.ownsMap_made w _ _ _) ⟨[], rfl⟩ (fun _ _ _ => rfl)) ?_
  intro y hy b e e'
  cases e
  have := (h.lt hy _ e').2
  omega
theorem Mem.newMapAt (M : MapT P κ) (h : Mem B w0 w L) (b : Nat) (hb : w.heap.size = b) : Mem B w0 (w.alloc (.map #[] 0)) (gmap M b 0 (fun _ => none) :: L) := by
  subst hb; exact h.newMapG
theorem gmap_look {b n : Nat} {f : κ → Option Value} (h : (gmap M b n f).ok B w) {x : κ} (hx : M.ok x) :
    (Instr.lookup M.t (.map (some b)) (M.enc x) false).run P w = .ok ((f x).getD M.zero) w ∧
    (Instr.lookup M.t (.map (some b)) (M.enc x) true).run P w = .ok (.tuple #[(f x).getD M.zero, .bool (f x).isSome]) w := by
  obtain ⟨_, _, D, ⟨es, clock, hb, F, _, rfl⟩, _, h3⟩ := gmap_own h
  have key : ∀ c, (Instr.lookup M.t (.map (some b)) (M.enc x) c).run P w = .ok (if c then .tuple #[(f x).getD M.zero, .bool (f x).isSome] else (f x).getD M.zero) w := by
    intro c
    rcases Maps.fit_look c M.keyed M.under (M.zeroOk w) hb F (M.key x hx) with ⟨hrun, _, hat⟩ | ⟨e0, y, _, _, hrun, hRv, hat, _⟩
    · have h4 := h3 x hx .nil
      rw [hat .nil] at h4
      cases hf : f x with
      | none => rw [hrun]; rfl
      | some v => rw [hf] at h4; cases h4
    · have h4 := h3 x hx .nil
      rw [hat .nil] at h4
      cases hRv
      cases hf : f x with
      | none => rw [hf] at h4; cases h4
      | some v =>
        rw [hf] at h4
        simp only [DataW.held.injEq] at h4
        rw [hrun, h4]; rfl
  exact ⟨by simpa using key false, by simpa using key true⟩

theorem Mem.wp_putG [DecidableEq κ] {ops : Array Oper} {rest : List Oper} {o : Oper} {a : Act} {Q : Exit → Act → World → Prop} (hgd : o.guard = none) (m x v : Operand) (hop : o.op = Op.mapUpdate M.t m x v)
    (h : Mem B w0 w L) (k : Nat) {b n : Nat} {f : κ → Option Value} (hk : L[k]? = some (gmap M b n f)) (hn : n ≤ 100000) (hm : a.eval m = .map (some b)) (y : κ) (z : Value) (hx : a.eval x = M.enc y) (hv : a.eval v = z) (hy : M.ok y)
    (hK : ∀ w', Mem B w0 w' (L.set k (gmap M b (n + 1) (fun u => if u = y then some z else f u))) → w.heap.size ≤ w'.heap.size → wpList P ops Q rest (a.put o.dst undef) w') : wpList P ops Q (o :: rest) a w := by
  obtain ⟨hB, _, D, h1, h2, h3⟩ := gmap_own (h.get k hk)
  refine wpList_mapUpdate_own w hgd m x v _ hop _ _ M.keyed M.under _ b n D hm h1 (by unfold maxLen; omega) _ _ _ hx hv (M.key y hy) (.held z) [] rfl ?_
  intro w' hown hg
  refine hK w' (h.turn k hk hg (gmap_ok hB hown ?_ ?_) (fun b' e => .inl e)) hg.size
  · obtain ⟨es, rfl⟩ := h2; exact ⟨_, rfl⟩
  · intro u hu zd
    by_cases e : u = y
    · subst e
      rw [if_pos rfl]
      exact atKey_put_same h2 (M.keyed.key (M.key u hu)) _ _
    · rw [if_neg e, atKey_put_other (by intro e2; first | exact e (M.inj _ _ hu hy e2) | exact e (M.inj _ _ hy hu e2).symm)]
      exact h3 u hu zd

theorem Mem.wp_delG [DecidableEq κ] {ops : Array Oper} {rest : List Oper} {o : Oper} {a : Act} {Q : Exit → Act → World → Prop} (hgd : o.guard = none) (m x : Operand) (hop : o.op = Op.call { callee := Callee.builtin Builtin.delete, args := #[m, x], argTypes := #[M.t, M.k] })
    (h : Mem B w0 w L) (k : Nat) {b n : Nat} {f : κ → Option Value} (hk : L[k]? = some (gmap M b n f)) (hm : a.eval m = .map (some b)) (y : κ) (hx : a.eval x = M.enc y) (hy : M.ok y)
    (hK : ∀ w', Mem B w0 w' (L.set k (gmap M b n (fun u => if u = y then none else f u))) → w.heap.size ≤ w'.heap.size → wpList P ops Q rest (a.put o.dst (.tuple #[])) w') : wpList P ops Q (o :: rest) a w := by
  obtain ⟨hB, _, D, h1, h2, h3⟩ := gmap_own (h.get k hk)
  refine wpList_delete_own w hgd m x _ _ hop _ M.keyed M.under _ b n D hm h1 _ _ hx (M.key y hy) ?_
  intro w' hown hg
  refine hK w' (h.turn k hk hg.grown (gmap_ok hB hown ?_ ?_) (fun b' e => .inl e)) hg.grown.size
  · obtain ⟨es, rfl⟩ := h2; exact ⟨_, rfl⟩
  · intro u hu zd
    by_cases e : u = y
    · subst e
      rw [if_pos rfl]
      exact atKey_del_same zd
    · rw [if_neg e, atKey_del_other (by intro e2; first | exact e (M.inj _ _ hu hy e2) | exact e (M.inj _ _ hy hu e2).symm)]
      exact h3 u hu zd
end
end Go.Proofs.Ytmmcjjklmcfegaa
