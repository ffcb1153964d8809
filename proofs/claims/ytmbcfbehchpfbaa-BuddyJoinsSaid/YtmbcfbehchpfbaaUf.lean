/- slices.Delete of one block, walked. -/
import Derived.Test.YtmbcfbehchpfbaaUe
import Derived.Deep.RegionLaw
namespace Go.Proofs.Ytmbcfbehchpfbaa
open Go.RowKit

theorem elemBlocks : Elem Try.prog 25 34 2 16 (.agg #[.int .i64 0, .int .i64 0]) := ⟨by kernel_rfl, info_parts (by kernel_rfl), rfl, by decide⟩
def encB (b : Nat × Nat) : List Value := [.int .i64 (b.1 : Int), .int .i64 (b.2 : Int)]
theorem encB_len (b : Nat × Nat) : (encB b).length = 2 := rfl
theorem encB_one (b : Nat × Nat) : ∀ v ∈ encB b, v.oneCell' = true := by simp [encB]; exact ⟨rfl, rfl⟩
def rowB (v : Value) (l : List (Nat × Nat)) : Ent := rowT 34 2 encB v l
theorem zeroB (w : World) : (zeroValue 34).run Try.prog w = .ok (.agg #[.int .i64 0, .int .i64 0]) w := by kernel_rfl
set_option maxRecDepth 100000 in
set_option maxHeartbeats 1000000 in
theorem delete_any (B : Nat) (w0 w : World) (L : List Ent) (k g n cap : Nat) (l : List (Nat × Nat)) (i : Nat) (x y : Int) (hM : Mem B w0 w L) (hk : L[k]? = some (rowB (.slice (some ⟨g, 0, none⟩) n cap) l)) (hn : l.length = n)
    (hi : i < n) (hx : x = (i : Int)) (hy : y = (i : Int) + 1) :
    Calls Try.prog 51 #[.slice (some ⟨g, 0, none⟩) n cap, .int .i64 x, .int .i64 y] w fun e w' =>
      e = .returned (.slice (some ⟨g, 0, none⟩) (n - 1) cap) ∧ Mem B w0 w' (L.set k (rowB (.slice (some ⟨g, 0, none⟩) (n - 1) cap) (l.eraseIdx i))) ∧ w'.heap.size = w.heap.size := by
  subst hx hy
  have hkl : k < L.length := (List.getElem?_eq_some_iff.1 hk).1
  unfold rowB rowT at hk
  rw [hn] at hk
  obtain ⟨cur, hcl, hct, hnc, hcm, hW⟩ := hM.wide k hk
  have hkW : (L.set k (erow 34 2 (.slice (some ⟨g, 0, none⟩) cap cap) cap cur))[k]? = some (erow 34 2 (.slice (some ⟨g, 0, none⟩) cap cap) cap cur) := by simp [hkl]
  have hWd := hW.drew
  obtain ⟨ti, hti, htz, hts, _⟩ := elemBlocks.info
  -- what goes to the left
  obtain ⟨D, hD⟩ : ∃ D, (l.drop (i + 1)).flatMap encB = D := ⟨_, rfl⟩
  have hDl : D.length = (n - (i + 1)) * 2 := by rw [← hD, length_tup encB_len, List.length_drop, hn]
  have hDc : ∀ j u, D[j]? = some u → cur[(i + 1) * 2 + j]? = some u := by
    intro j u hu
    rw [← hD, ← drop_tup encB_len, List.getElem?_drop, ← hct, List.getElem?_take] at hu
    split at hu
    · exact hu
    · cases hu
  obtain ⟨A, hA, hsrc⟩ : ∃ A : Addr, (if cap = i + 1 then some (⟨g, 0, none⟩ : Addr) else some ⟨g, (i + 1) * 2, none⟩) = some A ∧ ∀ j u, D[j]? = some u → w.drew.cell? (A.add j) = some u := by
    by_cases h : cap = i + 1
    · refine ⟨⟨g, 0, none⟩, by simp [h], fun j u hu => ?_⟩
      have h0 := (List.getElem?_eq_some_iff.1 hu).1
      omega
    · refine ⟨⟨g, (i + 1) * 2, none⟩, by simp [h], fun j u hu => ?_⟩
      rw [Addr.add_lit, hWd.cellW k hkW]
      exact hDc j u hu
  have h1 := one_tup encB_one (l.drop (i + 1))
  rw [hD] at h1
  have hfit : i * 2 + D.length ≤ cur.length := by rw [hDl, hcl]; omega
  have hap : ∀ ty c, (Builtin.append_ #[25, 25] ty #[.slice (some ⟨g, 0, none⟩) i cap, .slice (some A) (n - (i + 1)) c]).run Try.prog w.drew = .ok (.slice (some ⟨g, 0, none⟩) (i + (n - (i + 1))) cap) (w.drew.setRow g (splice cur (i * 2) D).toArray) := fun ty c => by
    have := run_append_wide (P := Try.prog) (w := w.drew) ty 25 34 ti elemBlocks.under hti g i cap cur (hWd.heapW k hkW).1 A (n - (i + 1)) c D (by rw [hts]; exact hDl) hsrc h1 (by omega) (by rw [hts]; exact hfit)
    rw [hts] at this; exact this
  have hW1 := hWd.setWide k hkW (splice cur (i * 2) D) (splice_len _ _ _ hfit)
  obtain ⟨W1, hW1e⟩ : ∃ W1, w.drew.setRow g (splice cur (i * 2) D).toArray = W1 := ⟨_, rfl⟩
  have hsz1 : W1.heap.size = w.heap.size := by rw [← hW1e]; simp [World.setRow]
  rw [hW1e] at hap hW1
  rw [List.set_set] at hW1
  have hkW1 : (L.set k (erow 34 2 (.slice (some ⟨g, 0, none⟩) cap cap) cap (splice cur (i * 2) D)))[k]? = some (erow 34 2 (.slice (some ⟨g, 0, none⟩) cap cap) cap (splice cur (i * 2) D)) := by simp [hkl]
  have hcl2 : (splice cur (i * 2) D).length = cur.length := splice_len _ _ _ hfit
  have hclr : ∀ ty c, (Builtin.clear_ #[25] ty #[.slice (some ⟨g, (n - 1) * 2, none⟩) (n - (n - 1)) c]).run Try.prog W1 = .ok (.tuple #[]) (W1.setRow g (splice (splice cur (i * 2) D) ((n - 1) * 2) [.int .i64 0, .int .i64 0]).toArray) := fun ty c => by
    rw [show n - (n - 1) = 1 by omega]
    exact run_clear_wide (P := Try.prog) (w := W1) ty 25 34 _ elemBlocks.under zeroB g ((n - 1) * 2) 1 c _ (hW1.heapW k hkW1).1 (by omega) _ (by kernel_rfl) (by simp; rfl) (by rw [hcl2, hcl]; simp; omega)
  have hW2 := hW1.setWide k hkW1 (splice (splice cur (i * 2) D) ((n - 1) * 2) [.int .i64 0, .int .i64 0]) (splice_len _ _ _ (by rw [hcl2, hcl]; simp; omega))
  rw [List.set_set] at hW2
  have hW3 := hW2.narrow k (n := n - 1) (xs := (l.eraseIdx i).flatMap encB) (by simp [hkl]; rfl) (by omega) (by
    rw [take_splice _ _ _ _ (by rw [hcl2, hcl]; simp; omega) (Nat.le_refl _), take_splice_end _ _ _ _ hfit (by rw [hDl]; omega), ← hD, ← erase_tup, ← take_tup encB_len, ← hct, List.take_take, Nat.min_eq_left (by omega)])
  rw [List.set_set] at hW3
  have hel : (l.eraseIdx i).length = n - 1 := by rw [List.length_eraseIdx, if_pos (by omega), hn]
  have Hclr := Lib.hid hclr
  have HA := Lib.hid hA
  have Hel := Lib.hid hel
  have Hsz := Lib.hid hsz1
  have hcm2 : cap ≤ 9223372036854775807 := by simp only [maxLen] at hcm; omega
  have e1 : i + (n - (i + 1)) = n - 1 := by omega
  rw [e1] at hap
  have HW3 := Lib.hid hW3
  have Hap := Lib.hid hap
  clear hW3 hW2 hW1 hap hclr hA hel hsz1 hcl2 hkW1 hW1e hfit h1 hsrc hDc hDl hD hWd hkW hW hct hcl hM hk hn hti htz hts hcm e1
  have hic : i ≤ cap := by omega
  have hjc : i + 1 ≤ cap := by omega
  have hj0 : (0 : Int) ≤ (i : Int) + 1 := by omega
  have hj1 : (i : Int) + 1 ≤ (n : Int) := by omega
  go_enter Try.func51, Try.ntmps51
  go_wp2
  go_region_law (refine step_append_run rfl (.tmp 22) (.tmp 25) _ _ rfl (v := .slice (some ⟨g, 0, none⟩) i cap) (u := .slice (some A) (n - (i + 1)) (cap - (i + 1))) (by simp [Act.eval, Act.put]) (by simp [Act.eval, Act.put]; first | exact HA.out | (have := HA.out; simp at this; exact this)) (fun ty => Hap.out ty _) ?_)
  go_wp2_with (refine wpList_clear_run rfl (.tmp 31) 25 rfl rfl (fun ty => Hclr.out ty _) ?_)
  all_goals
    go_ret
    exact ⟨by first | rfl | simp [*], HW3.out.cast (by unfold rowB rowT; rw [Hel.out]; try (first | rfl | simp [*])), by rw [← Hsz.out]; simp [World.setRow]⟩
end Go.Proofs.Ytmbcfbehchpfbaa
