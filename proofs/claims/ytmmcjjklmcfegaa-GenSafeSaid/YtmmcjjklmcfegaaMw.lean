/- The cells of a make of structs. -/
import Derived.Test.YtmmcjjklmcfegaaBase1
namespace Go.Proofs.Ytmmcjjklmcfegaa
open Go.RowKit

theorem made_wide {α : Type} {sz : Nat} {enc : α → List Value} (hz : ∀ x, (enc x).length = sz) (hp : 0 < sz) (z : Array Value) (x : α) (hx : enc x = z.toList) (n : Nat) : (madeCells z (n * sz)).toList = (List.replicate n x).flatMap enc := by
  have hzs : z.size = sz := by have := hz x; rw [hx] at this; simpa using this
  apply List.ext_getElem?
  intro i
  by_cases hi : i < n * sz
  · have hdm : i / sz * sz + i % sz = i := by rw [Nat.mul_comm]; exact Nat.div_add_mod i sz
    have hd : i / sz < n := (Nat.div_lt_iff_lt_mul hp).2 hi
    have hm : i % sz < sz := Nat.mod_lt _ hp
    have h1 : (List.replicate n x)[i / sz]? = some x := by rw [List.getElem?_replicate, if_pos hd]
    obtain ⟨u, hu⟩ : ∃ u, (enc x)[i % sz]? = some u := ⟨_, List.getElem?_eq_getElem (by rw [hz]; exact hm)⟩
    have h2 := getElem_tup hz _ _ _ h1 _ _ hu
    rw [hdm] at h2
    rw [h2]
    rw [hx] at hu
    have hu2 : z[i % sz]? = some u := by simpa using hu
    simp [madeCells, hi, hzs, getElem!_def, hu2]
  · rw [List.getElem?_eq_none (by simpa [size_madeCells] using Nat.le_of_not_lt hi), List.getElem?_eq_none (by rw [length_tup hz, List.length_replicate]; omega)]
end Go.Proofs.Ytmmcjjklmcfegaa
