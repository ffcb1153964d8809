/- map[int][]api.Value. -/
import Derived.Test.YtmmcjjklmcfegaaMq
namespace Go.Proofs.Ytmmcjjklmcfegaa
open Go.RowKit Go.Maps

def mapIV : MapT Try.prog Int where
  t := 112
  k := 3
  e := 23
  enc x := .int .i64 x
  lit x := .int .i64 x
  ok := i64ok
  zero := .slice none 0 0
  keyed := int_keyed Try.underlying3
  under := Try.underlying112
  key x hx := keyOf_int_mk Try.underlying3 (WalkArith.wf_i64 hx)
  inj x y _ _ h := by cases h; rfl
  zeroOk w := by kernel_rfl
theorem Mem.run_putG {P : Program} {κ : Type} {M : MapT P κ} {B : Nat} {w0 w : World} {L : List Ent} [DecidableEq κ] (h : Mem B w0 w L) (k : Nat) {b n : Nat} {f : κ → Option Value} (hk : L[k]? = some (gmap M b n f)) (hn : n ≤ 100000) (y : κ) (z : Value) (hy : M.ok y) :
    ∃ w', (Instr.mapUpdate M.t (.map (some b)) (M.enc y) z).run P w = .ok () w' ∧ Mem B w0 w' (L.set k (gmap M b (n + 1) (fun u => if u = y then some z else f u))) ∧ w.heap.size ≤ w'.heap.size := by
  obtain ⟨hB, _, D, h1, h2, h3⟩ := gmap_own (h.get k hk)
  obtain ⟨w', hrun, hown, hg⟩ := h1.update (d := .held z) (ps := []) M.keyed M.under (by unfold maxLen; omega) (M.key y hy) (show rawE z = some (.held z, []) from rfl)
  refine ⟨w', hrun, h.turn k hk hg (gmap_ok hB hown ?_ ?_) (fun b' e => .inl e), hg.size⟩
  · obtain ⟨es, rfl⟩ := h2; exact ⟨_, rfl⟩
  · intro u hu zd
    by_cases e : u = y
    · subst e
      rw [if_pos rfl]
      exact atKey_put_same h2 (M.keyed.key (M.key u hu)) _ _
    · rw [if_neg e, atKey_put_other (by intro e2; first | exact e (M.inj _ _ hu hy e2) | exact e (M.inj _ _ hy hu e2).symm)]
      exact h3 u hu zd
end Go.Proofs.Ytmmcjjklmcfegaa
