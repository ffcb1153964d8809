/- Buddies: the row of free pieces, sorted. -/
import Derived.Test.YtmbcfbehchpfbaaSf
import Derived.Test.YtmbcfbehchpfbaaXi
import Derived.Test.YtmbcfbehchpfbaaTu
namespace Go.Proofs.Ytmbcfbehchpfbaa
open Go.RowKit Go.Sort Go.Shelf

theorem flatK_list (l : List (Nat × Nat)) : (flatK encB 2 l.toArray).toList = l.flatMap encB := by
  refine List.ext_getElem? fun t => ?_
  by_cases ht : t < l.length * 2
  · have h1 : (flatK encB 2 l.toArray)[t]! = (encB l.toArray[t / 2]!)[t % 2]! := get_flatK encB 2 l.toArray t (by simpa using ht)
    have ht2 : t / 2 < l.length := by omega
    have h2 : l[t / 2]? = some l[t / 2] := List.getElem?_eq_getElem ht2
    have h3 : l.toArray[t / 2]! = l[t / 2] := by simp [ht2]
    have h5 : t % 2 < (encB l[t / 2]).length := by rw [encB_len]; omega
    have h4 := getElem_tup encB_len l (t / 2) _ h2 (t % 2) _ (List.getElem?_eq_getElem h5)
    rw [show t / 2 * 2 + t % 2 = t by omega] at h4
    rw [h4, Array.getElem?_toList]
    have hs : t < (flatK encB 2 l.toArray).size := by simpa using ht
    rw [Array.getElem?_eq_getElem hs]
    rw [getElem!_pos (flatK encB 2 l.toArray) t hs, h3] at h1
    rw [h1, getElem!_pos (encB l[t / 2]) (t % 2) h5]
  · rw [List.getElem?_eq_none (by simp; omega), List.getElem?_eq_none (by rw [length_tup encB_len]; omega)]
set_option maxHeartbeats 400000 in
theorem cmpAt_any (a b : Nat × Nat) (w : World) : Calls Try.prog 58 (#[.agg (encB a).toArray, .agg (encB b).toArray] ++ #[]) w fun e w' => e = .returned (.int .i64 (cmp3 a.1 b.1)) ∧ ∃ q os', w' = grow (w.drewN q) os' := by
  show Calls Try.prog 58 #[blk a, blk b] w _
  unfold blk
  go_enter Try.func58, Try.ntmps58
  go_wp2_with fail
  refine (compare_any _ _ _).mono ?_
  rintro e w' ⟨rfl, rfl⟩
  go_wp2
  go_ret
  exact ⟨rfl, 0, #[.cells #[.int .i64 (a.1 : Int), .int .i64 (a.2 : Int)] 34, .cells #[.int .i64 (b.1 : Int), .int .i64 (b.2 : Int)] 34], by rw [alloc_eq_grow, alloc_eq_grow, grow_grow]; rfl⟩
theorem ltAt (x y : Nat × Nat) : ltOf (fun x y : Nat × Nat => cmp3 x.1 y.1) x y = decide (x.1 < y.1) := by
  unfold ltOf
  rw [decide_eq_decide, cmp3_lt]
  omega
theorem swoAt : SWO (ltOf fun x y : Nat × Nat => cmp3 x.1 y.1) where
  irrefl x := by rw [ltAt]; simp
  trans x y z h1 h2 := by rw [ltAt] at *; simp at *; omega
  ntrans x y z h1 h2 := by rw [ltAt] at *; simp at *; omega
/-- A row behind the sort. -/
theorem sorted_own {B : Nat} {w : World} {g cap m : Nat} {e : TypeId} {cur : Array Value} {l d : List (Nat × Nat)} (os : Array Obj) (hlen : d.length = l.length) (ho : w.heap[g]? = some (.cells cur e (0, 0))) (hB : B ≤ g) (hcap : l.length ≤ cap) (hm : cap ≤ maxLen) (hs : cur.size = cap * 2) :
    (w.grownBy (sortWorldK encB 2 w g 0 m d.toArray os) (some g)) ∧ (sortWorldK encB 2 w g 0 m d.toArray os).ownsRow B e 2 (.slice (some ⟨g, 0, none⟩) l.length cap) d.length (d.flatMap encB) := by
  have hg : g < w.heap.size := (Array.getElem?_eq_some_iff.1 ho).1
  have hblk : ∀ k, k < w.heap.size → (sortWorldK encB 2 w g 0 m d.toArray os).heap[k]? = (w.heap.modify g (onCells (putCells id 0 (flatK encB 2 d.toArray))))[k]? := by
    intro k hk
    unfold sortWorldK putRowK putRow
    rw [heap_grow_old]
    · rfl
    · simpa [mapBlock, ahead] using hk
  refine ⟨⟨rfl, rfl, rfl, ?_, ?_⟩, ?_⟩
  · simp [sortWorldK, putRowK, putRow, mapBlock, grow]
  · intro k hk hne
    rw [hblk k hk, Array.getElem?_modify, if_neg (fun h => hne (by rw [h]))]
  · refine ⟨length_tup encB_len d, .inr ⟨g, cap, putCells id 0 (flatK encB 2 d.toArray) cur, by rw [hlen], hB, ?_, by rw [hlen]; exact hcap, hm, by simp [putCells, hs], ?_⟩⟩
    · rw [hblk g hg, Array.getElem?_modify, if_pos rfl, ho]; rfl
    · rw [← flatK_list]
      refine List.ext_getElem? fun t => ?_
      by_cases ht : t < d.length * 2
      · rw [List.getElem?_take_of_lt ht, Array.getElem?_toList, Array.getElem?_toList]
        have h1 : t < cur.size := by rw [hs]; omega
        have h2 : t < (flatK encB 2 d.toArray).size := by simpa using ht
        have h3 : t < (putCells id 0 (flatK encB 2 d.toArray) cur).size := by simpa [putCells] using h1
        rw [Array.getElem?_eq_getElem h3, Array.getElem?_eq_getElem h2]
        simp only [putCells, Array.getElem_mapIdx]
        rw [if_pos ⟨Nat.zero_le _, by omega⟩]
        simp only [Nat.sub_zero, id]
        rw [getElem!_pos (flatK encB 2 d.toArray) t h2]
      · rw [List.getElem?_eq_none (by simp; omega), List.getElem?_eq_none (by simp; omega)]
theorem sort_any (B : Nat) (w0 w : World) (L : List Ent) (i : Nat) (v : Value) (l : List (Nat × Nat)) (hM : Mem B w0 w L) (hi : L[i]? = some (rowB v l)) (hl : l.length ≤ 1000) :
    Calls Try.prog 57 #[v, .func (.func 58) #[] #[]] w fun e w' => e = .returned (.tuple #[]) ∧ ∃ d : List (Nat × Nat), d.Perm l ∧ d.Pairwise (fun a b => a.1 ≤ b.1) ∧ Mem B w0 w' (L.set i (rowB v d)) := by
  have hr := hM.row i hi
  have hnone : ∀ p cap, v = .slice p 0 cap → l = [] → Calls Try.prog 57 #[v, .func (.func 58) #[] #[]] w fun e w' => e = .returned (.tuple #[]) ∧ ∃ d : List (Nat × Nat), d.Perm l ∧ d.Pairwise (fun a b => a.1 ≤ b.1) ∧ Mem B w0 w' (L.set i (rowB v d)) := by
    rintro p cap rfl rfl
    have h := AnyF.slices_SortFunc_none Try.laySortFunc p cap (.func (.func 58) #[] #[]) w
    refine h.mono ?_
    rintro e w' ⟨rfl, rfl⟩
    refine ⟨rfl, [], .nil, List.Pairwise.nil, ?_⟩
    obtain ⟨hlt, hx⟩ := List.getElem?_eq_some_iff.1 hi
    rw [← hx, List.set_getElem_self]
    exact hM
  rcases hr.2 with ⟨rfl, hn⟩ | ⟨g, cap, cur, rfl, hB, ho, hcap, hm, hs, htk⟩
  · exact hnone none 0 rfl (List.length_eq_zero_iff.1 hn)
  · by_cases h0 : l = []
    · subst h0
      exact hnone _ cap rfl rfl
    · have hg : g < w.heap.size := (Array.getElem?_eq_some_iff.1 ho).1
      have hH : HoldsK encB 2 w g 0 l.toArray := by
        intro j hj
        have hj2 : j < l.length * 2 := by simpa using hj
        have h1 : j < cur.size := by rw [hs]; omega
        refine ⟨?_, ?_⟩
        · have h2 : (l.flatMap encB)[j]? = cur[j]? := by
            rw [← htk, List.getElem?_take_of_lt hj2, Array.getElem?_toList]
          rw [← flatK_list, Array.getElem?_toList, Array.getElem?_eq_getElem hj] at h2
          rw [getElem!_pos (flatK encB 2 l.toArray) j hj, Nat.zero_add]
          simp only [World.cell?, ho]
          exact h2.symm
        · simp [World.frozen?, ho]
      have eg : ∀ args w, (callFunc 58 args).run Try.prog w = .ok (.enter 58 args) w := enters_of Try.func58 (by kernel_rfl) rfl
      have h := AnyQ.slices_SortFunc Try.laySortFunc 2 Try.isAgg34 Try.sizeOf34 encB encB_len (fun x v hv => by simp [encB] at hv; rcases hv with rfl | rfl <;> rfl) (fun x y : Nat × Nat => cmp3 x.1 y.1) swoAt 58 #[] g 0 cap l.toArray w eg (fun m os dk _ x y => cmpAt_any x y _) hH hg (by simp; omega)
      refine h.mono ?_
      rintro e w' ⟨rfl, d', n, os, hp, hsd, rfl⟩
      obtain ⟨d, rfl⟩ : ∃ d : List (Nat × Nat), d' = d.toArray := ⟨d'.toList, by simp⟩
      have hsz : d.length = l.length := by simpa using hp.1
      have hperm : d.Perm l := by
        have := hp.2.2
        have e1 : (d.toArray.extract 0 l.toArray.size).toList = d := by simp [← hsz]
        have e2 : (l.toArray.extract 0 l.toArray.size).toList = l := by simp
        rwa [e1, e2] at this
      obtain ⟨h1, h2⟩ := sorted_own (B := B) (m := n) os hsz ho hB hcap hm hs
      refine ⟨rfl, d, hperm, ?_, ?_⟩
      · rw [List.pairwise_iff_getElem]
        intro a b ha hb hab
        have h3 := hsd a b (Nat.zero_le _) hab (by simpa [hsz] using hb)
        rw [ltAt, decide_eq_false_iff_not] at h3
        simpa [ha, hb] using h3
      · exact hM.turn i hi h1 (row_ok.2 h2) (fun b' e => .inl e)
end Go.Proofs.Ytmbcfbehchpfbaa
