/- m[k] = v in a statement with other stores: an entry is found or made, then stored into. -/
import Derived.Test.YtmbcfbehchpfbaaMz
import Derived.WideKeyEntry
namespace Go.Proofs.Ytmbcfbehchpfbaa
open Go.RowKit Go.Maps Go.ChangeShapes Go.WideShapes Go.MapKept Go.ChangeMaps Go.WideElems

theorem entry_store {H : Type} {P : Program} {w : World} {t k e : TypeId} {R : Value → Option (DataW H × List MemPlace)} {b : Nat} {es : Array MapEntry} {clock : Nat} (K : Keyed P k) (ht : P.underlying t = some (.map k e)) {z : Value} (hz : ∀ u : World, (zeroValue e).run P u = .ok z u)
    (hb : w.heap[b]? = some (.map es clock)) (F : Fit P k R es clock) {key : Value} {kl : Lit} (hkey : keyOf P k key = some kl) :
    ∃ (v0 : Value) (st : Nat) (es1 : Array MapEntry) (clock1 : Nat), (Instr.mapEntry t (.map (some b)) key).run P w = .ok (.tuple #[v0, goInt st]) (setBlock w b (.map es1 clock1)) ∧
      ∀ (w2 : World) (val : Value), w2.heap[b]? = some (.map es1 clock1) → ∃ es' clock', (Instr.entryStore t (.map (some b)) (goInt st) val).run P w2 = .ok () (setBlock w2 b (.map es' clock')) ∧
        (Instr.mapUpdate t (.map (some b)) key val).run P w = .ok () (setBlock w b (.map es' clock')) := by
  obtain ⟨s1, s2, _⟩ := F.stamped
  rcases K.find w hkey es.toList F.keys with ⟨h1, h2⟩ | ⟨j, e0, h1, h2, h3⟩
  · refine ⟨z, clock, es.push ⟨key, z, clock⟩, clock + 1, ?_, fun w2 val hw2 => ⟨es.push ⟨key, val, clock⟩, clock + 1, ?_, ?_⟩⟩
    · simp [Instr.mapEntry, run_underlying ht, MapKept.run_getObj_map hb, K.check w false hkey, h1, hz, MapKept.run_setObj_map _ hb, Result.andThen, setBlock]
    · have hidx : (es.push ⟨key, z, clock⟩).findIdx? (fun e => ((e.born : Nat) : Int) == ((clock : Nat) : Int)) = some es.size := by
        rw [findIdx_arr]
        exact findIdx_born (l := (es.push ⟨key, z, clock⟩).toList) (j := es.size) (e0 := ⟨key, z, clock⟩) (by
          simp only [Array.toList_push, List.map_append, List.map_cons, List.map_nil]
          refine List.nodup_append.2 ⟨s2, by simp, fun a ha c hc e1 => ?_⟩
          simp only [List.mem_singleton] at hc
          obtain ⟨x, hx, rfl⟩ := List.mem_map.1 ha
          have := s1 x hx
          omega) (by simp)
      have hmod : (es.push ⟨key, z, clock⟩).modify es.size (fun e => { e with val := val }) = es.push ⟨key, val, clock⟩ := by
        apply Array.ext'
        rw [Array.toList_modify, Array.toList_push, Array.toList_push, ← Array.length_toList, modify_last]
      simp [Instr.entryStore, MapKept.run_getObj_map hw2, asInt, asIntOf, goInt, hidx, hmod, MapKept.run_setObj_map _ hw2, Result.andThen, setBlock]
    · simp [Instr.mapUpdate, run_underlying ht, MapKept.run_getObj_map hb, K.check w false hkey, h1, MapKept.run_setObj_map _ hb, Result.andThen, setBlock]
  · have hj : es[j]? = some e0 := by simpa using h2
    have hsame : es.modify j (fun e => { e with key := key }) = es := by
      apply Array.ext'
      rw [Array.toList_modify, modify_eq_set _ _ _ _ h2]
      have : ({ e0 with key := key } : MapEntry) = e0 := by rw [← h3]
      rw [this]
      exact set_self _ _ _ h2
    refine ⟨e0.val, e0.born, es, clock, ?_, fun w2 val hw2 => ⟨es.modify j (fun e' => { e' with key := key, val := val }), clock, ?_, ?_⟩⟩
    · simp [Instr.mapEntry, run_underlying ht, MapKept.run_getObj_map hb, K.check w false hkey, h1, hj, h3, K.stays w hkey, hsame, MapKept.run_setObj_map _ hb, Result.andThen, setBlock]
    · have hidx : es.findIdx? (fun e => ((e.born : Nat) : Int) == ((e0.born : Nat) : Int)) = some j := by
        rw [findIdx_arr]
        exact findIdx_born s2 h2
      have hmod : es.modify j (fun e => { e with val := val }) = es.modify j (fun e' => { e' with key := key, val := val }) := by
        apply Array.ext'
        rw [Array.toList_modify, Array.toList_modify, modify_eq_set _ _ _ _ h2, modify_eq_set _ _ _ _ h2, ← h3]
      simp [Instr.entryStore, MapKept.run_getObj_map hw2, asInt, asIntOf, goInt, hidx, hmod, MapKept.run_setObj_map _ hw2, Result.andThen, setBlock]
    · simp [Instr.mapUpdate, run_underlying ht, MapKept.run_getObj_map hb, K.check w false hkey, h1, hj, h3, K.stays w hkey, MapKept.run_setObj_map _ hb, Result.andThen, setBlock]
theorem Mem.run_entryG {P : Program} {κ : Type} {M : MapT P κ} {B : Nat} {w0 w : World} {L : List Ent} [DecidableEq κ] (h : Mem B w0 w L) (k : Nat) {b n : Nat} {f : κ → Option Value} (hk : L[k]? = some (gmap M b n f)) (hn : n ≤ 100000) (y : κ) (z : Value) (hy : M.ok y) :
    ∃ v0 st w1 w2, (Instr.mapEntry M.t (.map (some b)) (M.enc y)).run P w = .ok (.tuple #[v0, goInt st]) w1 ∧ (Instr.entryStore M.t (.map (some b)) (goInt st) z).run P w1 = .ok () w2 ∧
      Mem B w0 w2 (L.set k (gmap M b (n + 1) (fun u => if u = y then some z else f u))) ∧ w.heap.size ≤ w2.heap.size := by
  obtain ⟨hB, _, D, h1, h2, h3⟩ := gmap_own (h.get k hk)
  obtain ⟨w', hrun, hown, hg⟩ := h1.update (d := .held z) (ps := []) M.keyed M.under (by unfold maxLen; omega) (M.key y hy) (show rawE z = some (.held z, []) from rfl)
  obtain ⟨es, clock, hb, F, hs, hD⟩ := h1
  obtain ⟨v0, st, es1, clock1, hr1, hr2⟩ := entry_store M.keyed M.under M.zeroOk hb F (M.key y hy)
  obtain ⟨es2, clock2, hr3, hr4⟩ := hr2 (setBlock w b (.map es1 clock1)) z (heap_setBlock_same hb _)
  rw [hrun] at hr4
  have hw : w' = setBlock w b (.map es2 clock2) := by injection hr4
  have hss : setBlock (setBlock w b (.map es1 clock1)) b (.map es2 clock2) = w' := by rw [hw]; simp [setBlock]
  rw [hss] at hr3
  refine ⟨v0, st, _, w', hr1, hr3, h.turn k hk hg (gmap_ok hB hown ?_ ?_) (fun b' e => .inl e), hg.size⟩
  · obtain ⟨es, rfl⟩ := h2; exact ⟨_, rfl⟩
  · intro u hu zd
    by_cases e : u = y
    · subst e
      rw [if_pos rfl]
      exact atKey_put_same h2 (M.keyed.key (M.key u hu)) _ _
    · rw [if_neg e, atKey_put_other (by intro e2; first | exact e (M.inj _ _ hu hy e2) | exact e (M.inj _ _ hy hu e2).symm)]
      exact h3 u hu zd
theorem wpList_mapEntry_run {P : Program} {w : World} {ops : Array Oper} {rest : List Oper} {o : Oper} {a : Act} {Q : Exit → Act → World → Prop} (hgd : o.guard = none) (t : TypeId) (m x : Operand) (ho : o.op = .mapEntry t m x) {mv kv v' : Value} {w' : World} (hm : a.eval m = mv) (hx : a.eval x = kv)
    (hr : (Instr.mapEntry t mv kv).run P w = .ok v' w') (h : wpList P ops Q rest (a.put o.dst v') w') : wpList P ops Q (o :: rest) a w := by
  refine wpList_plain hgd fun K hK => ?_
  unfold Oper.wp
  simp [execOp, ho, hm, hx, hr, Result.andThen]
  exact hK _ _ h
theorem wpList_entryStore_run {P : Program} {w : World} {ops : Array Oper} {rest : List Oper} {o : Oper} {a : Act} {Q : Exit → Act → World → Prop} (hgd : o.guard = none) (t : TypeId) (m s x : Operand) (ho : o.op = .entryStore t m s x) {mv sv kv : Value} {w' : World} (hm : a.eval m = mv) (hs : a.eval s = sv) (hx : a.eval x = kv)
    (hr : (Instr.entryStore t mv sv kv).run P w = .ok () w') (h : wpList P ops Q rest (a.put o.dst undef) w') : wpList P ops Q (o :: rest) a w := by
  refine wpList_plain hgd fun K hK => ?_
  unfold Oper.wp
  simp [execOp, ho, hm, hs, hx, hr, Result.andThen]
  exact hK _ _ h
end Go.Proofs.Ytmbcfbehchpfbaa
