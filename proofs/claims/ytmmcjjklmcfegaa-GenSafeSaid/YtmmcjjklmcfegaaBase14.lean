/- Texts Mq Mrg Gmp in one. -/
import Derived.Test.YtmmcjjklmcfegaaBase1
import Derived.Maps.Own
import Derived.Maps.OwnOps
import Derived.Maps.OwnSet
import Derived.Maps.Views
import Derived.WalkArith
import Derived.Maps.RangeWalk
import Derived.OpenShut
import Derived.DeepKeys4
/- Maps of the call's own, of any element: what lies at each key, value by value. -/
namespace Go.Proofs.Ytmmcjjklmcfegaa
open Go.RowKit Go.Maps

/-- A map's type, and how keys are spelled. -/
structure MapT (P : Program) (κ : Type) where
  t : TypeId
  k : TypeId
  e : TypeId
  enc : κ → Value
  lit : κ → Lit
  ok : κ → Prop
  zero : Value
  keyed : Keyed P k
  under : P.underlying t = some (.map k e)
  key : ∀ x, ok x → keyOf P k (enc x) = some (lit x)
  inj : ∀ x y, ok x → ok y → lit x = lit y → x = y
  zeroOk : ∀ w : World, (zeroValue e).run P w = .ok zero w

def rawE (v : Value) : Option (DataW Value × List MemPlace) := some (.held v, [])
/-- Block b is a map of at most n entries; f tells what lies at each key. -/
def gmap {P : Program} {κ : Type} (M : MapT P κ) (b n : Nat) (f : κ → Option Value) : Ent := ⟨some b, fun o => ∃ (wv : World) (D : DataW Value), wv.heap[b]? = o ∧ wv.ownsMap P M.k rawE b n D ∧ IsMap D ∧
  ∀ x, M.ok x → ∀ zd, D.atKey (M.lit x) zd = match f x with | some v => .held v | none => zd⟩

section
variable {P : Program} {κ : Type} {M : MapT P κ} {B : Nat} {w0 w : World} {L : List Ent}
theorem gmap_own {b n : Nat} {f : κ → Option Value} (h : (gmap M b n f).ok B w) : B ≤ b ∧ b < w.heap.size ∧ ∃ D : DataW Value, w.ownsMap P M.k rawE b n D ∧ IsMap D ∧
    ∀ x, M.ok x → ∀ zd, D.atKey (M.lit x) zd = match f x with | some v => .held v | none => zd := by
  obtain ⟨h1, wv, D, h2, ⟨es, clock, hb, r⟩, h4, h5⟩ := h
  obtain ⟨a, c⟩ := h1 b rfl
  refine ⟨a, c, D, ⟨es, clock, ?_, r⟩, h4, h5⟩
  have : w.heap[b]? = wv.heap[b]? := h2.symm
  rw [this]; exact hb
theorem gmap_ok {b n : Nat} {f : κ → Option Value} {D : DataW Value} (hB : B ≤ b) (h : w.ownsMap P M.k rawE b n D) (hm : IsMap D)
    (hp : ∀ x, M.ok x → ∀ zd, D.atKey (M.lit x) zd = match f x with | some v => .held v | none => zd) : (gmap M b n f).ok B w :=
  ⟨fun b' e => by cases e; exact ⟨hB, h.lt⟩, w, D, rfl, h, hm, hp⟩
theorem Mem.newMapG (h : Mem B w0 w L) : Mem B w0 (w.alloc (.map #[] 0)) (gmap M w.heap.size 0 (fun _ => none) :: L) := by
  refine (h.alloc_ _).cons _ (gmap_ok h.base (World.ownsMap_made w _ _ _) ⟨[], rfl⟩ (fun _ _ _ => rfl)) ?_
  intro y hy b e e'
  cases e
  have := (h.lt hy _ e').2
  omega
theorem Mem.newMapAt (M : MapT P κ) (h : Mem B w0 w L) (b : Nat) (hb : w.heap.size = b) : Mem B w0 (w.alloc (.map #[] 0)) (gmap M b 0 (fun _ => none) :: L) := by
  subst hb; exact h.newMapG
theorem gmap_look {b n : Nat} {f : κ → Option Value} (h : (gmap M b n f).ok B w) {x : κ} (hx : M.ok x) :
    (Instr.lookup M.t (.map (some b)) (M.enc x) false).run P w = .ok ((f x).getD M.zero) w ∧
    (Instr.lookup M.t (.map (some b)) (M.enc x) true).run P w = .ok (.tuple #[(f x).getD M.zero, .bool (f x).isSome]) w := by
  obtain ⟨_, _, D, ⟨es, clock, hb, F, _, rfl⟩, _, h3⟩ := gmap_own h
  have key : ∀ c, (Instr.lookup M.t (.map (some b)) (M.enc x) c).run P w = .ok (if c then .tuple #[(f x).getD M.zero, .bool (f x).isSome] else (f x).getD M.zero) w := by
    intro c
    rcases Maps.fit_look c M.keyed M.under (M.zeroOk w) hb F (M.key x hx) with ⟨hrun, _, hat⟩ | ⟨e0, y, _, _, hrun, hRv, hat, _⟩
    · have h4 := h3 x hx .nil
      rw [hat .nil] at h4
      cases hf : f x with
      | none => rw [hrun]; rfl
      | some v => rw [hf] at h4; cases h4
    · have h4 := h3 x hx .nil
      rw [hat .nil] at h4
      cases hRv
      cases hf : f x with
      | none => rw [hf] at h4; cases h4
      | some v =>
        rw [hf] at h4
        simp only [DataW.held.injEq] at h4
        rw [hrun, h4]; rfl
  exact ⟨by simpa using key false, by simpa using key true⟩

theorem Mem.wp_putG [DecidableEq κ] {ops : Array Oper} {rest : List Oper} {o : Oper} {a : Act} {Q : Exit → Act → World → Prop} (hgd : o.guard = none) (m x v : Operand) (hop : o.op = Op.mapUpdate M.t m x v)
    (h : Mem B w0 w L) (k : Nat) {b n : Nat} {f : κ → Option Value} (hk : L[k]? = some (gmap M b n f)) (hn : n ≤ 100000) (hm : a.eval m = .map (some b)) (y : κ) (z : Value) (hx : a.eval x = M.enc y) (hv : a.eval v = z) (hy : M.ok y)
    (hK : ∀ w', Mem B w0 w' (L.set k (gmap M b (n + 1) (fun u => if u = y then some z else f u))) → w.heap.size ≤ w'.heap.size → wpList P ops Q rest (a.put o.dst undef) w') : wpList P ops Q (o :: rest) a w := by
  obtain ⟨hB, _, D, h1, h2, h3⟩ := gmap_own (h.get k hk)
  refine wpList_mapUpdate_own w hgd m x v _ hop _ _ M.keyed M.under _ b n D hm h1 (by unfold maxLen; omega) _ _ _ hx hv (M.key y hy) (.held z) [] rfl ?_
  intro w' hown hg
  refine hK w' (h.turn k hk hg (gmap_ok hB hown ?_ ?_) (fun b' e => .inl e)) hg.size
  · obtain ⟨es, rfl⟩ := h2; exact ⟨_, rfl⟩
  · intro u hu zd
    by_cases e : u = y
    · subst e
      rw [if_pos rfl]
      exact atKey_put_same h2 (M.keyed.key (M.key u hu)) _ _
    · rw [if_neg e, atKey_put_other (by intro e2; first | exact e (M.inj _ _ hu hy e2) | exact e (M.inj _ _ hy hu e2).symm)]
      exact h3 u hu zd

theorem Mem.wp_delG [DecidableEq κ] {ops : Array Oper} {rest : List Oper} {o : Oper} {a : Act} {Q : Exit → Act → World → Prop} (hgd : o.guard = none) (m x : Operand) (hop : o.op = Op.call { callee := Callee.builtin Builtin.delete, args := #[m, x], argTypes := #[M.t, M.k] })
    (h : Mem B w0 w L) (k : Nat) {b n : Nat} {f : κ → Option Value} (hk : L[k]? = some (gmap M b n f)) (hm : a.eval m = .map (some b)) (y : κ) (hx : a.eval x = M.enc y) (hy : M.ok y)
    (hK : ∀ w', Mem B w0 w' (L.set k (gmap M b n (fun u => if u = y then none else f u))) → w.heap.size ≤ w'.heap.size → wpList P ops Q rest (a.put o.dst (.tuple #[])) w') : wpList P ops Q (o :: rest) a w := by
  obtain ⟨hB, _, D, h1, h2, h3⟩ := gmap_own (h.get k hk)
  refine wpList_delete_own w hgd m x _ _ hop _ M.keyed M.under _ b n D hm h1 _ _ hx (M.key y hy) ?_
  intro w' hown hg
  refine hK w' (h.turn k hk hg.grown (gmap_ok hB hown ?_ ?_) (fun b' e => .inl e)) hg.grown.size
  · obtain ⟨es, rfl⟩ := h2; exact ⟨_, rfl⟩
  · intro u hu zd
    by_cases e : u = y
    · subst e
      rw [if_pos rfl]
      exact atKey_del_same zd
    · rw [if_neg e, atKey_del_other (by intro e2; first | exact e (M.inj _ _ hu hy e2) | exact e (M.inj _ _ hy hu e2).symm)]
      exact h3 u hu zd
end
end Go.Proofs.Ytmmcjjklmcfegaa

/- A range over a map of the call's own: the map and the iterator as two blocks whose objects are known, what is still to come key by key. -/
namespace Go.Proofs.Ytmmcjjklmcfegaa
open Go.RowKit Go.Maps

/-- A block that holds just this. -/
def efix (b : Nat) (o : Obj) : Ent := ⟨some b, fun x => x = some o⟩
/-- A range under way: 'left' tells whether a key is still to come. -/
def Ranging {P : Program} {κ : Type} (M : MapT P κ) (b r n : Nat) (f : κ → Option Value) (left : κ → Bool) (cnt : Nat) (mo ro : Obj) : Prop :=
  ∃ (wv : World) (D : DataW Value) (leftL : Lit → Bool), wv.heap[b]? = some mo ∧ wv.heap[r]? = some ro ∧ wv.ranges P M.k rawE b r n D leftL cnt ∧ IsMap D ∧
    (∀ x, M.ok x → ∀ zd, D.atKey (M.lit x) zd = match f x with | some v => .held v | none => zd) ∧ ∀ x, M.ok x → leftL (M.lit x) = left x
/-- Each key that reads is one of ours. -/
def MapT.Inv {P : Program} {κ : Type} (M : MapT P κ) : Prop := ∀ key kl, keyOf P M.k key = some kl → ∃ x, M.ok x ∧ key = M.enc x ∧ kl = M.lit x

section
variable {P : Program} {κ : Type} {M : MapT P κ} {B : Nat} {w0 w : World} {L : List Ent}
theorem ranges_same {H : Type} {k : TypeId} {R : Value → Option (DataW H × List MemPlace)} {b r n : Nat} {D : DataW H} {left : Lit → Bool} {cnt : Nat} {w w' : World} (h : w.ranges P k R b r n D left cnt)
    (hb : w'.heap[b]? = w.heap[b]?) (hr : w'.heap[r]? = w.heap[r]?) : w'.ranges P k R b r n D left cnt := by
  obtain ⟨es, clock, since, seen, c0, h1, F, hs, hD, h2, rest⟩ := h
  exact ⟨es, clock, since, seen, c0, hb.trans h1, F, hs, hD, hr.trans h2, rest⟩
theorem Mem.fix (h : Mem B w0 w L) (k : Nat) {b : Nat} {o : Obj} (hk : L[k]? = some (efix b o)) : w.heap[b]? = some o := (h.get k hk).2
/-- 'range m'. -/
theorem Mem.wp_rangeG {ops : Array Oper} {rest : List Oper} {o : Oper} {a : Act} {Q : Exit → Act → World → Prop} (hgd : o.guard = none) (m : Operand) (hop : o.op = Op.range M.t m)
    (h : Mem B w0 w L) (k : Nat) {b n : Nat} {f : κ → Option Value} (hk : L[k]? = some (gmap M b n f)) (hm : a.eval m = .map (some b))
    (hK : ∀ (w' : World) (r cnt : Nat) (mo ro : Obj), Mem B w0 w' (efix r ro :: L.set k (efix b mo)) → Ranging M b r n f (fun x => (f x).isSome) cnt mo ro → cnt ≤ n → Hid (r = w.heap.size) → w.heap.size < w'.heap.size → Below w.heap.size w w' →
      wpList P ops Q rest (a.put o.dst (.pointer (some ⟨r, 0, none⟩))) w') : wpList P ops Q (o :: rest) a w := by
  obtain ⟨hB, hlt, D, h1, h2, h3⟩ := gmap_own (h.get k hk)
  refine wpList_range_own w hgd m _ hop _ _ M.keyed M.under rawE b n D hm h1 ?_
  intro w' hr hg hs
  obtain ⟨es, clock, since, seen, c0, hb', F, hes, hD, hr', hrest⟩ := hr
  have hbel : Below w.heap.size w w' := (Below.refl _ w).grown hg (Nat.le_refl _) (fun _ e => by cases e)
  have hM1 : Mem B w0 w' (L.set k (efix b (.map es clock))) := by
    have h4 := (h.call hbel).turn k hk (x' := efix b (.map es clock)) (w' := w') ⟨rfl, rfl, rfl, Nat.le_refl _, fun _ _ _ => rfl⟩ ⟨fun b' e => by cases e; exact ⟨hB, by omega⟩, hb'⟩ (fun b' e => .inl e)
    exact h4
  have hM2 : Mem B w0 w' (efix w.heap.size (.mapIter (some b) since seen c0) :: L.set k (efix b (.map es clock))) := by
    refine hM1.cons _ ⟨fun b' e => by cases e; exact ⟨h.base, by omega⟩, hr'⟩ ?_
    intro y hy b' e e'
    cases e
    have hxe : ∀ x ∈ L, ∀ b', x.blk = some b' → b' < w.heap.size := fun x hx b' e => (h.lt hx b' e).2
    rcases List.mem_or_eq_of_mem_set hy with h5 | h5
    · exact absurd (hxe y h5 _ e') (Nat.lt_irrefl _)
    · subst h5
      cases e'
      omega
  refine hK w' _ _ _ _ hM2 ⟨w', D, Maps.has D, hb', hr', ⟨es, clock, since, seen, c0, hb', F, hes, hD, hr', hrest⟩, h2, h3, ?_⟩ (by have h9 := hrest.2.1; have h10 : (leftOf es seen).size ≤ es.size := Array.size_filter_le; omega) (Lib.hid rfl) (by omega) hbel
  intro x hx
  cases hf : f x with
  | none =>
    have := fun zd => h3 x hx zd
    rw [hf] at this
    simp only [hf]
    exact has_false_of_atKey this
  | some v =>
    have := fun zd => h3 x hx zd
    rw [hf] at this
    simp only [hf]
    exact has_true_of_atKey this
/-- The step. -/
theorem Mem.wp_nextG [DecidableEq κ] (hinv : M.Inv) {ops : Array Oper} {rest : List Oper} {o : Oper} {a : Act} {Q : Exit → Act → World → Prop} (hgd : o.guard = none) (it : Operand) (hop : o.op = Op.next it false)
    (h : Mem B w0 w L) (kr km : Nat) {b r n cnt : Nat} {f : κ → Option Value} {left : κ → Bool} {mo ro : Obj} (hkr : L[kr]? = some (efix r ro)) (hkm : L[km]? = some (efix b mo)) (hR : Ranging M b r n f left cnt mo ro) (hit : a.eval it = .pointer (some ⟨r, 0, none⟩))
    (hDone : cnt = 0 → (∀ x, M.ok x → left x = false) → wpList P ops Q rest (a.put o.dst (.tuple #[.bool false])) w)
    (hMore : ∀ (x : κ) (v : Value) (w' : World) (cnt' : Nat) (ro' : Obj), M.ok x → left x = true → f x = some v → Mem B w0 w' (L.set kr (efix r ro')) → Ranging M b r n f (fun y => left y && !decide (y = x)) cnt' mo ro' → cnt' < cnt → w'.heap.size = w.heap.size →
      (Instr.entry (.pointer (some ⟨r, 0, none⟩))).run P w' = .ok (.tuple #[M.enc x, v]) w' → wpList P ops Q rest (a.put o.dst (.tuple #[.bool true, M.enc x, v])) w') : wpList P ops Q (o :: rest) a w := by
  obtain ⟨wv, D, leftL, hb, hr, hrg, hmap, hat, hleft⟩ := hR
  have hb2 := h.fix km hkm
  have hr2 := h.fix kr hkr
  have hrg2 := ranges_same hrg (hb2.trans hb.symm) (hr2.trans hr.symm)
  refine wpList_plain hgd fun K' hK' => ?_
  unfold Oper.wp
  rcases hrg2.next M.keyed o.type with ⟨h0, hl, hrun⟩ | ⟨key, v, kl, y, w', cnt', hkey, hlk, hv, hat2, hrun, hrg3, hlt, hgr, hsz, hen⟩
  · simp [execOp, hop, hit, hrun, Result.andThen]
    exact hK' _ _ (hDone h0 fun x hx => (hleft x hx).symm.trans (hl _))
  · obtain ⟨x, hx, rfl, rfl⟩ := hinv key kl hkey
    have hy : y = (.held v, []) := by
      unfold rawE at hv
      exact (Option.some.inj hv).symm
    subst hy
    have hfx : f x = some v := by
      have h4 := hat x hx .nil
      rw [hat2 .nil] at h4
      cases hf : f x with
      | none => rw [hf] at h4; cases h4
      | some v' => rw [hf] at h4; simp only [DataW.held.injEq] at h4; rw [h4]
    obtain ⟨es, clock, since, seen, c0, hb3, F, hes, hD, hr3, hrest⟩ := hrg3
    have hne : r ≠ b := hrg2.ne
    have hbb : w'.heap[b]? = w.heap[b]? := hgr.block b hrg2.owns.lt (fun e => hne (Option.some.inj e).symm)
    have hM2 := h.turn kr hkr (x' := efix r (.mapIter (some b) since seen c0)) hgr ⟨fun b' e => by cases e; exact ⟨((h.get kr hkr).1 r rfl).1, by rw [hsz]; exact ((h.get kr hkr).1 r rfl).2⟩, hr3⟩ (fun b' e => .inl e)
    simp [execOp, hop, hit, hrun, Result.andThen]
    refine hK' _ _ (hMore x v w' cnt' _ hx ((hleft x hx).symm.trans hlk) hfx hM2 ⟨w', D, fun z => leftL z && !z.sameKey (M.lit x), hbb.trans hb2, hr3, ⟨es, clock, since, seen, c0, hb3, F, hes, hD, hr3, hrest⟩, hmap, hat, ?_⟩ hlt hsz hen)
    intro z hz
    simp only
    rw [hleft z hz]
    congr 1
    by_cases e : z = x
    · subst e
      rw [WideAt.sameKey_self (M.keyed.key (M.key z hz))]
      simp
    · have : (M.lit z).sameKey (M.lit x) = false := by
        cases hs : (M.lit z).sameKey (M.lit x) with
        | false => rfl
        | true => exact absurd (M.inj z x hz hx (WideAt.sameKey_eq hs)) e
      rw [this]; simp [e]
/-- Behind the range the map is one of the call's own as it was. -/
theorem Mem.rangeEnd (h : Mem B w0 w L) (km : Nat) {b r n cnt : Nat} {f : κ → Option Value} {left : κ → Bool} {mo ro : Obj} (hkm : L[km]? = some (efix b mo)) (hR : Ranging M b r n f left cnt mo ro) : Mem B w0 w (L.set km (gmap M b n f)) := by
  obtain ⟨wv, D, leftL, hb, hr, hrg, hmap, hat, hleft⟩ := hR
  refine h.turn km hkm ⟨rfl, rfl, rfl, Nat.le_refl _, fun _ _ _ => rfl⟩ ⟨(h.get km hkm).1, wv, D, ?_, hrg.owns, hmap, hat⟩ (fun b' e => .inl e)
  show wv.heap[b]? = w.heap[b]?
  rw [hb, h.fix km hkm]
end
end Go.Proofs.Ytmmcjjklmcfegaa

/- map[api.Count]int: its keys, 'clear'. -/
namespace Go.Proofs.Ytmmcjjklmcfegaa
open Go.RowKit Go.Shelf Go.Maps Go.MapKept Go.ChangeMaps

def cntV (p : Int × Int) : Value := .agg #[.int .i64 p.1, .int .i64 p.2]
theorem laidAllC : laidOutB Try.prog = true := by kernel_rfl
theorem row_cnt : 53 < Try.prog.types.size := of_decide_eq_true (by kernel_rfl)
theorem keyedCnt : Keyed Try.prog 53 := Keyed.of_law (deep_law_laid laidAllC (m := 3) (by omega) row_cnt (by kernel_rfl) (by kernel_rfl))
set_option maxRecDepth 100000 in
theorem lits_cnt (s : Nat) (a b : Value) : Try.prog.keyLits (s + 1) 53 [a, b] = ((Try.prog.keyLits s 3 [a]).bind fun x => (Try.prog.keyLits s 3 [b]).map fun y => x ++ y) := by
  have hc : Try.prog.cellsOf 53 = 2 := by kernel_rfl
  have hc1 : Try.prog.cellsOf 3 = 1 := by kernel_rfl
  conv => lhs; unfold Program.keyLits
  simp only [Try.underlying53, hc]
  simp [hc1]
  cases Try.prog.keyLits s 3 [a] with
  | none => rfl
  | some x =>
    cases Try.prog.keyLits s 3 [b] with
    | none => rfl
    | some y => simp
theorem lits_int (a : Value) : Try.prog.keyLits Try.prog.types.size 3 [a] = match a with | .int .i64 n => if (Lit.int .i64 n).wf = true then some [.int .i64 n] else none | _ => none := by
  obtain ⟨s, hs⟩ : ∃ s, Try.prog.types.size = s + 1 := ⟨Try.prog.types.size - 1, by have := row_cnt; omega⟩
  rw [hs]
  unfold Program.keyLits
  simp only [Try.underlying3]
  cases a with
  | int k n => cases k <;> simp
  | _ => rfl
theorem key_cnt (x : Int × Int) (hx : i64ok x.1 ∧ i64ok x.2) : keyOf Try.prog 53 (cntV x) = some (.string (keyBytes [.int .i64 x.1, .int .i64 x.2])) := by
  have w1 := WalkArith.wf_i64 hx.1
  have w2 := WalkArith.wf_i64 hx.2
  have hk : Program.keyType Try.prog 53 = true := by kernel_rfl
  have hc : Try.prog.cellsOf 53 = 2 := by kernel_rfl
  have hf : (cntV x).formed Try.prog 53 = true := by
    simp [cntV, Value.formed, Try.underlying53, hc]
  unfold keyOf
  rw [Try.underlying53]
  simp only [hk, hf, Bool.and_self, if_true]
  simp only [cntV, Value.cells]
  rw [lits_cnt, lits_int, lits_int]
  simp only [w1, w2, if_true]
  rfl
/-- map[api.Count]int. -/
def mapCI : MapT Try.prog (Int × Int) where
  t := 120
  k := 53
  e := 3
  enc := cntV
  lit x := .string (keyBytes [.int .i64 x.1, .int .i64 x.2])
  ok x := i64ok x.1 ∧ i64ok x.2
  zero := .int .i64 0
  keyed := keyedCnt
  under := Try.underlying120
  key := key_cnt
  inj x y hx hy h := by
    have h1 := key_cnt x hx
    have h2 := key_cnt y hy
    rw [h] at h1
    have := keyedCnt.inj h1 h2
    obtain ⟨a, b⟩ := x
    obtain ⟨c, d⟩ := y
    simp [cntV] at this
    simp [this]
  zeroOk w := by kernel_rfl
set_option maxRecDepth 100000 in
theorem mapCI_inv : mapCI.Inv := by
  intro key kl h
  have h0 : keyOf Try.prog 53 key = some kl := h
  have hk : Program.keyType Try.prog 53 = true := by kernel_rfl
  have hc : Try.prog.cellsOf 53 = 2 := by kernel_rfl
  unfold keyOf at h0
  rw [Try.underlying53] at h0
  simp only [hk, Bool.true_and] at h0
  split at h0
  · rename_i hf
    obtain ⟨ls, hls, rfl⟩ := Option.map_eq_some_iff.1 h0
    cases key with
    | agg cs =>
      unfold Value.formed at hf
      simp only [Try.underlying53, hc, beq_iff_eq] at hf
      obtain ⟨l⟩ := cs
      match l, hf with
      | [a, b], _ =>
        clear hf h h0
        have e : (Value.agg #[a, b]).cells.toList = [a, b] := rfl
        rw [show (Value.agg ({ toList := [a, b] } : Array Value)) = .agg #[a, b] from rfl, e, lits_cnt, lits_int, lits_int] at hls
        cases a with
        | int ka na =>
          cases ka <;> first | (simp at hls; done) | skip
          cases b with
          | int kb nb =>
            cases kb <;> first | (simp at hls; done) | skip
            simp only at hls
            split at hls
            · rename_i wa
              simp only [Option.bind_some] at hls
              split at hls
              · rename_i wb
                simp at hls
                exact ⟨(na, nb), ⟨bounds_i64 wa, bounds_i64 wb⟩, rfl, by rw [← hls]; rfl⟩
              · simp at hls
            · simp at hls
          | _ => simp at hls
        | _ => simp at hls
    | _ => unfold Value.formed at hf; simp [Try.underlying53] at hf
  · cases h0
section
variable {P : Program} {κ : Type} {M : MapT P κ} {B : Nat} {w0 w : World} {L : List Ent}
/-- 'clear(m)'. -/
theorem Mem.run_clearG (h : Mem B w0 w L) (k : Nat) {b n : Nat} {f : κ → Option Value} (hk : L[k]? = some (gmap M b n f)) (ty : TypeId) :
    ∃ w', (Builtin.clear_ #[M.t] ty #[.map (some b)]).run P w = .ok (.tuple #[]) w' ∧ Mem B w0 w' (L.set k (gmap M b n (fun _ => none))) ∧ w.heap.size = w'.heap.size := by
  obtain ⟨hB, hlt, D, ⟨es, clock, hb, r⟩, h2, h3⟩ := gmap_own (h.get k hk)
  obtain ⟨w', hw'⟩ : ∃ w', w' = setBlock w b (.map #[] clock) := ⟨_, rfl⟩
  have hrun : (Builtin.clear_ #[M.t] ty #[.map (some b)]).run P w = .ok (.tuple #[]) w' := by
    rw [hw']
    simp [Builtin.clear_, run_underlying M.under, MapKept.run_getObj_map hb, MapKept.run_setObj_map _ hb, Result.andThen, setBlock]
  have hown : w'.ownsMap P M.k rawE b n (.map []) := by
    rw [hw']
    exact ⟨#[], clock, heap_setBlock_same hb _, ⟨by simp, ⟨fun _ h => by simp at h, by simp, by simp⟩, by simp⟩, Nat.zero_le _, rfl⟩
  have hg : w.mapTurned w' b := ⟨es, clock, #[], clock, hb, hw'⟩
  have hs : w.heap.size = w'.heap.size := by rw [hw']; simp [setBlock]
  refine ⟨w', hrun, h.turn k hk hg.grown (gmap_ok hB hown ⟨[], rfl⟩ (fun _ _ _ => rfl)) (fun b' e => .inl e), hs⟩
theorem Mem.wp_clearG {ops : Array Oper} {rest : List Oper} {o : Oper} {a : Act} {Q : Exit → Act → World → Prop} (hgd : o.guard = none) (m : Operand) (hop : o.op = Op.call { callee := Callee.builtin Builtin.clear, args := #[m], argTypes := #[M.t] })
    (h : Mem B w0 w L) (k : Nat) {b n : Nat} {f : κ → Option Value} (hk : L[k]? = some (gmap M b n f)) (hm : a.eval m = .map (some b))
    (hK : ∀ w', Mem B w0 w' (L.set k (gmap M b n (fun _ => none))) → w.heap.size = w'.heap.size → wpList P ops Q rest (a.put o.dst (.tuple #[])) w') : wpList P ops Q (o :: rest) a w := by
  refine wpList_plain hgd fun K' hK' => ?_
  obtain ⟨w', hrun, h1, h2⟩ := h.run_clearG k hk o.type
  unfold Oper.wp
  simp [execOp, hop, resolve, invoke, builtin, hm, hrun, Result.andThen]
  exact hK' _ _ (hK w' h1 h2)
end
/-- What a set of pairs holds. -/
def setC (r : Int × Int → Bool) (p : Int × Int) : Option Value := if r p = true then some (.int .i64 1) else none
theorem setC_no : setC (fun _ => false) = fun _ => none := by funext p; simp [setC]
theorem setC_put (r : Int × Int → Bool) (q : Int × Int) : (fun u => if u = q then some (Value.int .i64 1) else setC r u) = setC (fun u => if u = q then true else r u) := by
  funext u
  unfold setC
  by_cases e : u = q
  · simp [e]
  · simp [e]
theorem setC_some {r : Int × Int → Bool} {p : Int × Int} : (setC r p).isSome = true ↔ r p = true := by
  unfold setC; split <;> simp_all
end Go.Proofs.Ytmmcjjklmcfegaa
