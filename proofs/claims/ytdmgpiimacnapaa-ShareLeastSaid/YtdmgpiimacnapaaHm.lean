/- map[pair]int. -/
import Derived.Test.YtdmgpiimacnapaaHa
import Derived.Test.YtdmgpiimacnapaaMq
import Derived.DeepKeys4
namespace Go.Proofs.Ytdmgpiimacnapaa
open Go.RowKit Go.Shelf Go.Maps

def pairV (p : Int × Int) : Value := .agg #[.int .i64 p.1, .int .i64 p.2]
theorem laidAll : laidOutB Try.prog = true := by kernel_rfl
theorem row_pair : 65 < Try.prog.types.size := of_decide_eq_true (by kernel_rfl)
theorem keyedPair : Keyed Try.prog 65 := Keyed.of_law (deep_law_laid laidAll (m := 3) (by omega) row_pair (by kernel_rfl) (by kernel_rfl))
set_option maxRecDepth 100000 in
theorem key_pair (x : Int × Int) (hx : i64ok x.1 ∧ i64ok x.2) : keyOf Try.prog 65 (pairV x) = some (.string (keyBytes [.int .i64 x.1, .int .i64 x.2])) := by
  have w1 := WalkArith.wf_i64 hx.1
  have w2 := WalkArith.wf_i64 hx.2
  have hk : Program.keyType Try.prog 65 = true := by kernel_rfl
  have hc : Try.prog.cellsOf 65 = 2 := by kernel_rfl
  have hc1 : Try.prog.cellsOf 3 = 1 := by kernel_rfl
  have hf : (pairV x).formed Try.prog 65 = true := by
    simp [pairV, Value.formed, Try.underlying65, hc]
  obtain ⟨s, hs⟩ : ∃ s, Try.prog.types.size + 1 = s + 2 := ⟨Try.prog.types.size - 1, by have := row_pair; omega⟩
  have hL : Try.prog.keyLits (Try.prog.types.size + 1) 65 [.int .i64 x.1, .int .i64 x.2] = some [.int .i64 x.1, .int .i64 x.2] := by
    rw [hs]
    have hi : ∀ y, (Lit.int .i64 y).wf = true → Try.prog.keyLits (s + 1) 3 [.int .i64 y] = some [.int .i64 y] := by
      intro y hy
      simp only [Program.keyLits, Try.underlying3]
      simp [hy]
    unfold Program.keyLits
    simp only [Try.underlying65, hc]
    simp [hi _ w1, hi _ w2, hc1]
  unfold keyOf
  rw [Try.underlying65]
  simp only [hk, hf, Bool.and_self, if_true]
  simp only [pairV, Value.cells]
  rw [hL]
  rfl
/-- map[pair]int. -/
def mapPair : MapT Try.prog (Int × Int) where
  t := 61
  k := 65
  e := 3
  enc := pairV
  lit x := .string (keyBytes [.int .i64 x.1, .int .i64 x.2])
  ok x := i64ok x.1 ∧ i64ok x.2
  zero := .int .i64 0
  keyed := keyedPair
  under := Try.underlying61
  key := key_pair
  inj x y hx hy h := by
    have h1 := key_pair x hx
    have h2 := key_pair y hy
    rw [h] at h1
    have := keyedPair.inj h1 h2
    obtain ⟨a, b⟩ := x
    obtain ⟨c, d⟩ := y
    simp [pairV] at this
    simp [this]
  zeroOk w := by kernel_rfl

/-- A map of the pairs, in a later world. -/
theorem gmap_later {P : Program} {κ : Type} {M : MapT P κ} {B b n : Nat} {f : κ → Option Value} {w w' : World} (h : (gmap M b n f).ok B w) (hb : Below w.heap.size w w') : (gmap M b n f).ok B w' := by
  obtain ⟨h1, h2⟩ := h
  have hlt := (h1 b rfl).2
  refine ⟨fun b' e => ⟨(h1 b' e).1, Nat.lt_of_lt_of_le (h1 b' e).2 hb.size⟩, ?_⟩
  obtain ⟨wv, D, h3, h4⟩ := h2
  exact ⟨wv, D, h3.trans (hb.block b hlt).symm, h4⟩
def mapF (m : Int × Int → Option Nat) (p : Int × Int) : Option Value := (m p).map fun j => .int .i64 (j : Int)
end Go.Proofs.Ytdmgpiimacnapaa
