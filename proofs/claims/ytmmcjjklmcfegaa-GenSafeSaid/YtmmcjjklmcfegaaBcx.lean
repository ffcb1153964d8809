/- A cell of a box among what is owned. -/
import Derived.Test.YtmmcjjklmcfegaaBase1
namespace Go.Proofs.Ytmmcjjklmcfegaa
open Go.RowKit

section
variable {B : Nat} {w0 w : World} {L : List Ent}
theorem Mem.boxCell (h : Mem B w0 w L) {b : Nat} {c : Array Value} {t : TypeId} (hm : ebox b c t ∈ L) (i : Nat) {v : Value} (hv : c[i]? = some v) : w.cell? ⟨b, i, none⟩ = some v := by
  obtain ⟨k, hk⟩ := List.mem_iff_getElem?.1 hm
  have := h.cell k hk i
  rw [this, hv]
theorem Mem.boxFree (h : Mem B w0 w L) {b : Nat} {c : Array Value} {t : TypeId} (hm : ebox b c t ∈ L) (i : Nat) : w.frozen? ⟨b, i, none⟩ = false ∧ b < w.heap.size := by
  obtain ⟨k, hk⟩ := List.mem_iff_getElem?.1 hm
  exact ⟨h.free k hk i, (h.box k hk).2.1⟩
end
end Go.Proofs.Ytmmcjjklmcfegaa
