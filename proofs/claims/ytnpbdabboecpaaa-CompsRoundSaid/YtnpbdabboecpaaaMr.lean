/- A range over a map of the call's own: the map and the iterator as two blocks whose objects are known, what is still to come key by key. -/
import Derived.Test.YtnpbdabboecpaaaMz
import Derived.Test.YtnpbdabboecpaaaMq
import Derived.Maps.RangeWalk
import Derived.OpenShut
namespace Go.Proofs.Ytnpbdabboecpaaa
open Go.RowKit Go.Maps

/-- A block that holds just this. -/
def efix (b : Nat) (o : Obj) : Ent := ⟨some b, fun x => x = some o⟩
/-- A range under way: 'left' tells whether a key is still to come. -/
def Ranging {P : Program} {κ : Type} (M : MapT P κ) (b r n : Nat) (f : κ → Option Value) (left : κ → Bool) (cnt : Nat) (mo ro : Obj) : Prop :=
  ∃ (wv : World) (D : DataW Value) (leftL : Lit → Bool), wv.heap[b]? = some mo ∧ wv.heap[r]? = some ro ∧ wv.ranges P M.k rawE b r n D leftL cnt ∧ IsMap D ∧
    (∀ x, M.ok x → ∀ zd, D.atKey (M.lit x) zd = match f x with | some v => .held v | none => zd) ∧ ∀ x, M.ok x → leftL (M.lit x) = left x
/-- Each key that reads is one of ours. -/
def MapT.Inv {P : Program} {κ : Type} (M : MapT P κ) : Prop := ∀ key kl, keyOf P M.k key = some kl → ∃ x, M.ok x ∧ key = M.enc x ∧ kl = M.lit x

section
variable {P : Program} {κ : Type} {M : MapT P κ} {B : Nat} {w0 w : World} {L : List Ent}
theorem ranges_same {H : Type} {k : TypeId} {R : Value → Option (DataW H × List MemPlace)} {b r n : Nat} {D : DataW H} {left : Lit → Bool} {cnt : Nat} {w w' : World} (h : w.ranges P k R b r n D left cnt)
    (hb : w'.heap[b]? = w.heap[b]?) (hr : w'.heap[r]? = w.heap[r]?) : w'.ranges P k R b r n D left cnt := by
  obtain ⟨es, clock, since, seen, c0, h1, F, hs, hD, h2, rest⟩ := h
  exact ⟨es, clock, since, seen, c0, hb.trans h1, F, hs, hD, hr.trans h2, rest⟩
theorem Mem.fix (h : Mem B w0 w L) (k : Nat) {b : Nat} {o : Obj} (hk : L[k]? = some (efix b o)) : w.heap[b]? = some o := (h.get k hk).2
/-- 'range m'. -/
theorem Mem.wp_rangeG {ops : Array Oper} {rest : List Oper} {o : Oper} {a : Act} {Q : Exit → Act → World → Prop} (hgd : o.guard = none) (m : Operand) (hop : o.op = Op.range M.t m)
    (h : Mem B w0 w L) (k : Nat) {b n : Nat} {f : κ → Option Value} (hk : L[k]? = some (gmap M b n f)) (hm : a.eval m = .map (some b))
    (hK : ∀ (w' : World) (r cnt : Nat) (mo ro : Obj), Mem B w0 w' (efix r ro :: L.set k (efix b mo)) → Ranging M b r n f (fun x => (f x).isSome) cnt mo ro → cnt ≤ n → Hid (r = w.heap.size) → w.heap.size < w'.heap.size → Below w.heap.size w w' →
      wpList P ops Q rest (a.put o.dst (.pointer (some ⟨r, 0, none⟩))) w') : wpList P ops Q (o :: rest) a w := by
  obtain ⟨hB, hlt, D, h1, h2, h3⟩ := gmap_own (h.get k hk)
  refine wpList_range_own w hgd m _ hop _ _ M.keyed M.under rawE b n D hm h1 ?_
  intro w' hr hg hs
  obtain ⟨es, clock, since, seen, c0, hb', F, hes, hD, hr', hrest⟩ := hr
  have hbel : Below w.heap.size w w' := (Below.refl _ w).grown hg (Nat.le_refl _) (fun _ e => by cases e)
  have hM1 : Mem B w0 w' (L.set k (efix b (.map es clock))) := by
    have h4 := (h.call hbel).turn k hk (x' := efix b (.map es clock)) (w' := w') ⟨rfl, rfl, rfl, Nat.le_refl _, fun _ _ _ => rfl⟩ ⟨fun b' e => by cases e; exact ⟨hB, by omega⟩, hb'⟩ (fun b' e => .inl e)
    exact h4
  have hM2 : Mem B w0 w' (efix w.heap.size (.mapIter (some b) since seen c0) :: L.set k (efix b (.map es clock))) := by
    refine hM1.cons _ ⟨fun b' e => by cases e; exact ⟨h.base, by omega⟩, hr'⟩ ?_
    intro y hy b' e e'
    cases e
    have hxe : ∀ x ∈ L, ∀ b', x.blk = some b' → b' < w.heap.size := fun x hx b' e => (h.lt hx b' e).2
    rcases List.mem_or_eq_of_mem_set hy with h5 | h5
    · exact absurd (hxe y h5 _ e') (Nat.lt_irrefl _)
    · subst h5
      cases e'
      omega
  refine hK w' _ _ _ _ hM2 ⟨w', D, Maps.has D, hb', hr', ⟨es, clock, since, seen, c0, hb', F, hes, hD, hr', hrest⟩, h2, h3, ?_⟩ (by have h9 := hrest.2.1; have h10 : (leftOf es seen).size ≤ es.size := Array.size_filter_le; omega) (Lib.hid rfl) (by omega) hbel
  intro x hx
  cases hf : f x with
  | none =>
    have := fun zd => h3 x hx zd
    rw [hf] at this
    simp only [hf]
    exact has_false_of_atKey this
  | some v =>
    have := fun zd => h3 x hx zd
    rw [hf] at this
    simp only [hf]
    exact has_true_of_atKey this
/-- The step. -/
theorem Mem.wp_nextG [DecidableEq κ] (hinv : M.Inv) {ops : Array Oper} {rest : List Oper} {o : Oper} {a : Act} {Q : Exit → Act → World → Prop} (hgd : o.guard = none) (it : Operand) (hop : o.op = Op.next it false)
    (h : Mem B w0 w L) (kr km : Nat) {b r n cnt : Nat} {f : κ → Option Value} {left : κ → Bool} {mo ro : Obj} (hkr : L[kr]? = some (efix r ro)) (hkm : L[km]? = some (efix b mo)) (hR : Ranging M b r n f left cnt mo ro) (hit : a.eval it = .pointer (some ⟨r, 0, none⟩))
    (hDone : cnt = 0 → (∀ x, M.ok x → left x = false) → wpList P ops Q rest (a.put o.dst (.tuple #[.bool false])) w)
    (hMore : ∀ (x : κ) (v : Value) (w' : World) (cnt' : Nat) (ro' : Obj), M.ok x → left x = true → f x = some v → Mem B w0 w' (L.set kr (efix r ro')) → Ranging M b r n f (fun y => left y && !decide (y = x)) cnt' mo ro' → cnt' < cnt → w'.heap.size = w.heap.size →
      (Instr.entry (.pointer (some ⟨r, 0, none⟩))).run P w' = .ok (.tuple #[M.enc x, v]) w' → wpList P ops Q rest (a.put o.dst (.tuple #[.bool true, M.enc x, v])) w') : wpList P ops Q (o :: rest) a w := by
  obtain ⟨wv, D, leftL, hb, hr, hrg, hmap, hat, hleft⟩ := hR
  have hb2 := h.fix km hkm
  have hr2 := h.fix kr hkr
  have hrg2 := ranges_same hrg (hb2.trans hb.symm) (hr2.trans hr.symm)
  refine wpList_plain hgd fun K' hK' => ?_
  unfold Oper.wp
  rcases hrg2.next M.keyed o.type with ⟨h0, hl, hrun⟩ | ⟨key, v, kl, y, w', cnt', hkey, hlk, hv, hat2, hrun, hrg3, hlt, hgr, hsz, hen⟩
  · simp [execOp, hop, hit, hrun, Result.andThen]
    exact hK' _ _ (hDone h0 fun x hx => (hleft x hx).symm.trans (hl _))
  · obtain ⟨x, hx, rfl, rfl⟩ := hinv key kl hkey
    have hy : y = (.held v, []) := by
      unfold rawE at hv
      exact (Option.some.inj hv).symm
    subst hy
    have hfx : f x = some v := by
      have h4 := hat x hx .nil
      rw [hat2 .nil] at h4
      cases hf : f x with
      | none => rw [hf] at h4; cases h4
      | some v' => rw [hf] at h4; simp only [DataW.held.injEq] at h4; rw [h4]
    obtain ⟨es, clock, since, seen, c0, hb3, F, hes, hD, hr3, hrest⟩ := hrg3
    have hne : r ≠ b := hrg2.ne
    have hbb : w'.heap[b]? = w.heap[b]? := hgr.block b hrg2.owns.lt (fun e => hne (Option.some.inj e).symm)
    have hM2 := h.turn kr hkr (x' := efix r (.mapIter (some b) since seen c0)) hgr ⟨fun b' e => by cases e; exact ⟨((h.get kr hkr).1 r rfl).1, by rw [hsz]; exact ((h.get kr hkr).1 r rfl).2⟩, hr3⟩ (fun b' e => .inl e)
    simp [execOp, hop, hit, hrun, Result.andThen]
    refine hK' _ _ (hMore x v w' cnt' _ hx ((hleft x hx).symm.trans hlk) hfx hM2 ⟨w', D, fun z => leftL z && !z.sameKey (M.lit x), hbb.trans hb2, hr3, ⟨es, clock, since, seen, c0, hb3, F, hes, hD, hr3, hrest⟩, hmap, hat, ?_⟩ hlt hsz hen)
    intro z hz
    simp only
    rw [hleft z hz]
    congr 1
    by_cases e : z = x
    · subst e
      rw [WideAt.sameKey_self (M.keyed.key (M.key z hz))]
      simp
    · have : (M.lit z).sameKey (M.lit x) = false := by
        cases hs : (M.lit z).sameKey (M.lit x) with
        | false => rfl
        | true => exact absurd (M.inj z x hz hx (WideAt.sameKey_eq hs)) e
      rw [this]; simp [e]
/-- Behind the range the map is one of the call's own as it was. -/
theorem Mem.rangeEnd (h : Mem B w0 w L) (km : Nat) {b r n cnt : Nat} {f : κ → Option Value} {left : κ → Bool} {mo ro : Obj} (hkm : L[km]? = some (efix b mo)) (hR : Ranging M b r n f left cnt mo ro) : Mem B w0 w (L.set km (gmap M b n f)) := by
  obtain ⟨wv, D, leftL, hb, hr, hrg, hmap, hat, hleft⟩ := hR
  refine h.turn km hkm ⟨rfl, rfl, rfl, Nat.le_refl _, fun _ _ _ => rfl⟩ ⟨(h.get km hkm).1, wv, D, ?_, hrg.owns, hmap, hat⟩ (fun b' e => .inl e)
  show wv.heap[b]? = w.heap[b]?
  rw [hb, h.fix km hkm]
end
theorem mapII_inv : mapII.Inv := by
  intro key kl h
  obtain ⟨x, rfl, rfl, hw⟩ := Maps.keyOf_int_inv Try.underlying3 h
  exact ⟨x, bounds_i64 hw, rfl, rfl⟩
/-- The step, of a map[int]int. -/
theorem Mem.wp_nextII {B : Nat} {w0 w : World} {L : List Ent} {ops : Array Oper} {rest : List Oper} {o : Oper} {a : Act} {Q : Exit → Act → World → Prop} (hgd : o.guard = none) (it : Operand) (hop : o.op = Op.next it false)
    (h : Mem B w0 w L) (kr km : Nat) {b r n cnt : Nat} {f : Int → Option Value} {left : Int → Bool} {mo ro : Obj} (hkr : L[kr]? = some (efix r ro)) (hkm : L[km]? = some (efix b mo)) (hR : Ranging mapII b r n f left cnt mo ro) (hit : a.eval it = .pointer (some ⟨r, 0, none⟩))
    (hDone : cnt = 0 → (∀ x, i64ok x → left x = false) → wpList Try.prog ops Q rest (a.put o.dst (.tuple #[.bool false])) w)
    (hMore : ∀ (x : Int) (v : Value) (w' : World) (cnt' : Nat) (ro' : Obj), i64ok x → left x = true → f x = some v → Mem B w0 w' (L.set kr (efix r ro')) → Ranging mapII b r n f (fun y => left y && !decide (y = x)) cnt' mo ro' → cnt' < cnt → w'.heap.size = w.heap.size →
      (Instr.entry (.pointer (some ⟨r, 0, none⟩))).run Try.prog w' = .ok (.tuple #[.int .i64 x, v]) w' → wpList Try.prog ops Q rest (a.put o.dst (.tuple #[.bool true, .int .i64 x, v])) w') : wpList Try.prog ops Q (o :: rest) a w :=
  Mem.wp_nextG (M := mapII) mapII_inv hgd it hop h kr km hkr hkm hR hit hDone hMore
end Go.Proofs.Ytnpbdabboecpaaa
