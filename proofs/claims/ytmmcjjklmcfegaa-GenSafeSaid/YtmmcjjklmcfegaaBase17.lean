/- Texts Cmr Gki in one. -/
import Derived.Test.YtmmcjjklmcfegaaBase1
import Derived.Lib.Hide
import Derived.IntWalk
import Derived.Test.YtmmcjjklmcfegaaSfc
import Derived.Test.YtmmcjjklmcfegaaM9
import Derived.Sort.Grow
import Derived.Deep.RegionLaw
import Derived.Deep.CutBlock
/- cmp.Compare at ints, walked. -/
namespace Go.Proofs.Ytmmcjjklmcfegaa
open Go.RowKit
def cmp3 (x y : Int) : Int := if x < y then -1 else if y < x then 1 else 0
theorem cmp3_lt (x y : Int) : cmp3 x y < 0 ↔ x < y := by unfold cmp3; split <;> (try split) <;> omega
theorem cmp3_eq (x y : Int) : cmp3 x y = 0 ↔ x = y := by unfold cmp3; split <;> (try split) <;> omega
theorem cmp3_ok (x y : Int) : i64ok (cmp3 x y) := by unfold cmp3 i64ok; split <;> (try split) <;> omega
set_option maxHeartbeats 400000 in
theorem compare_any (x y : Int) (w : World) : Calls Try.prog 58 #[.int .i64 x, .int .i64 y] w fun e w' => e = .returned (.int .i64 (cmp3 x y)) ∧ w = w' := by
  by_cases h1 : x < y
  · have e : cmp3 x y = -1 := by unfold cmp3; rw [if_pos h1]
    have E := Lib.hid e
    clear e
    go_enter Try.func58, Try.ntmps58
    go_wp2
    go_ret
    exact ⟨by rw [E.out]; rfl, rfl⟩
  · by_cases h2 : y < x
    · have e : cmp3 x y = 1 := by unfold cmp3; rw [if_neg h1, if_pos h2]
      have E := Lib.hid e
      clear e
      go_enter Try.func58, Try.ntmps58
      go_wp2
      go_ret
      exact ⟨by rw [E.out]; rfl, rfl⟩
    · have e : cmp3 x y = 0 := by unfold cmp3; rw [if_neg h1, if_neg h2]
      have E := Lib.hid e
      clear e
      have h3 : ¬ x > y := h2
      go_enter Try.func58, Try.ntmps58
      go_wp2
      go_ret
      exact ⟨by rw [E.out]; rfl, rfl⟩
end Go.Proofs.Ytmmcjjklmcfegaa

/- Pairs in order: cmp.Or, the comparison, slices.SortFunc at api.Count. -/
namespace Go.Proofs.Ytmmcjjklmcfegaa
open Go.RowKit Go.Sort Go.Shelf

def orI (a b : Int) : Int := if a ≠ 0 then a else b
set_option maxRecDepth 100000 in
set_option maxHeartbeats 1000000 in
theorem or_any (a b : Int) (g c : Nat) (w : World) (h0 : w.cell? ⟨g, 0, none⟩ = some (.int .i64 a)) (h1 : w.cell? ⟨g, 1, none⟩ = some (.int .i64 b)) :
    Calls Try.prog 57 #[.slice (some ⟨g, 0, none⟩) 2 c] w fun e w' => e = .returned (.int .i64 (orI a b)) ∧ w = w' := by
  obtain ⟨r, hr⟩ : ∃ r, orI a b = r := ⟨_, rfl⟩
  rw [hr]
  have Hr := Lib.hid hr
  clear hr
  go_enter Try.func57, Try.ntmps57
  go_wp2_with fail
  go_loopw [5, 8] (fun _ i wr => wr = w ∧ (i = .int .i64 0 ∨ (i = .int .i64 1 ∧ a = 0) ∨ (i = .int .i64 2 ∧ a = 0 ∧ b = 0))) (fun _ i _ => 2 - (intOf i).toNat)
  case atStart => exact ⟨rfl, .inl rfl⟩
  case round =>
    obtain ⟨rfl, hrel⟩ := hrel
    rcases hrel with rfl | ⟨rfl, rfl⟩ | ⟨rfl, rfl, rfl⟩
    · by_cases ha : a = 0
      · subst ha
        go_wp2_with fail
        go_roundw
        case rel => exact ⟨trivial, .inr (.inl ⟨by go_num, trivial⟩)⟩
        case measure => simp [intOf]
      · have hn : (a != 0) = true := by simpa using ha
        have e0 : a = r := by rw [← Hr.out]; unfold orI; rw [if_pos ha]
        have E0 := Lib.hid e0
        clear e0
        go_wp2_with fail
        go_ret
        exact ⟨by rw [← E0.out]; rfl, rfl⟩
    · by_cases hb : b = 0
      · subst hb
        go_wp2_with fail
        go_roundw
        case rel => exact ⟨trivial, .inr (.inr ⟨by go_num, trivial, trivial⟩)⟩
        case measure => simp [intOf]
      · have hn : (b != 0) = true := by simpa using hb
        have e0 : b = r := by rw [← Hr.out]; unfold orI; rw [if_neg (by simp)]
        have E0 := Lib.hid e0
        clear e0
        go_wp2_with fail
        go_ret
        exact ⟨by rw [← E0.out]; rfl, rfl⟩
    · have e0 : (0 : Int) = r := by rw [← Hr.out]; unfold orI; rw [if_neg (by simp)]
      have E0 := Lib.hid e0
      clear e0
      go_wp2_with fail
      go_ret
      exact ⟨by rw [← E0.out]; rfl, rfl⟩
def cmpP (x y : Int × Int) : Int := orI (cmp3 x.1 y.1) (cmp3 x.2 y.2)
def cellsP (p : Int × Int) : List Value := [.int .i64 p.1, .int .i64 p.2]
theorem cellsP_len (p : Int × Int) : (cellsP p).length = 2 := rfl
set_option maxRecDepth 100000 in
set_option maxHeartbeats 1000000 in
theorem cmpP_any (a b : Int × Int) (w : World) : Calls Try.prog 56 (#[.agg (cellsP a).toArray, .agg (cellsP b).toArray] ++ #[]) w fun e w' => e = .returned (.int .i64 (cmpP a b)) ∧ ∃ q os', w' = grow (w.drewN q) os' := by
  show Calls Try.prog 56 #[.agg #[.int .i64 a.1, .int .i64 a.2], .agg #[.int .i64 b.1, .int .i64 b.2]] w _
  obtain ⟨a1, a2⟩ := a
  obtain ⟨b1, b2⟩ := b
  have hM := ((Mem.start w).alloc #[.int .i64 a1, .int .i64 a2] 53).allocAt (w.heap.size + 1) (by simp) #[.int .i64 b1, .int .i64 b2] 53
  obtain ⟨W2, hW2⟩ : ∃ W2, (w.alloc (.cells #[.int .i64 a1, .int .i64 a2] 53)).alloc (.cells #[.int .i64 b1, .int .i64 b2] 53) = W2 := ⟨_, rfl⟩
  have hgr : W2 = grow w #[.cells #[.int .i64 a1, .int .i64 a2] 53, .cells #[.int .i64 b1, .int .i64 b2] 53] := by
    rw [← hW2, alloc_eq_grow, alloc_eq_grow, grow_grow]; rfl
  rw [hW2] at hM
  have hP : ∀ X, Below W2.heap.size W2 X → X.cell? ⟨w.heap.size, 0, none⟩ = some (.int .i64 a1) ∧ X.cell? ⟨w.heap.size, 1, none⟩ = some (.int .i64 a2) ∧ X.cell? ⟨w.heap.size + 1, 0, none⟩ = some (.int .i64 b1) ∧ X.cell? ⟨w.heap.size + 1, 1, none⟩ = some (.int .i64 b2) := by
    intro X hX
    have h1 := hM.call hX
    exact ⟨h1.cell 1 rfl 0, h1.cell 1 rfl 1, h1.cell 0 rfl 0, h1.cell 0 rfl 1⟩
  have HP := Lib.hid hP
  have HW2 := Lib.hid hW2
  have Hgr := Lib.hid hgr
  have hz : W2.heap.size = w.heap.size + 1 + 1 := by rw [← hW2]; simp
  have hc : ∀ x y : Value, (W2.alloc (.cells #[x, y] 3)).drew.cell? ⟨w.heap.size + 1 + 1, 0, none⟩ = some x ∧ (W2.alloc (.cells #[x, y] 3)).drew.cell? ⟨w.heap.size + 1 + 1, 1, none⟩ = some y := by
    intro x y
    show (W2.alloc (.cells #[x, y] 3)).cell? ⟨w.heap.size + 1 + 1, 0, none⟩ = some x ∧ (W2.alloc (.cells #[x, y] 3)).cell? ⟨w.heap.size + 1 + 1, 1, none⟩ = some y
    rw [← hz, World.cell?_alloc_new, World.cell?_alloc_new]
    exact ⟨rfl, rfl⟩
  have Hc := Lib.hid hc
  clear hP hM hW2 hgr hc
  go_enter Try.func56, Try.ntmps56
  go_upto_region 1 with (fail)
  rw [HW2.out]
  go_region_held3 (fun X => X.cell? ⟨w.heap.size, 0, none⟩ = some (.int .i64 a1) ∧ X.cell? ⟨w.heap.size, 1, none⟩ = some (.int .i64 a2) ∧ X.cell? ⟨w.heap.size + 1, 0, none⟩ = some (.int .i64 b1) ∧ X.cell? ⟨w.heap.size + 1, 1, none⟩ = some (.int .i64 b2))
    (first | (apply HP.out; (focus (repeat (first | exact Below.refl _ _ | with_reducible apply Below.drew | refine Below.alloc ?_ (by simp) _)))) | fail)
    (first
      | (go_at_call 58
         refine (compare_any _ _ _).mono ?_
         rintro e w' ⟨rfl, rfl⟩)
      | (go_at_call 57
         refine (or_any (cmp3 a1 b1) (cmp3 a2 b2) _ _ _ (Hc.out _ _).1 (Hc.out _ _).2).mono ?_
         rintro e w' ⟨rfl, rfl⟩)
      | fail)
  go_wp2_with fail
  go_ret
  refine ⟨rfl, 1, #[.cells #[.int .i64 a1, .int .i64 a2] 53, .cells #[.int .i64 b1, .int .i64 b2] 53] ++ #[.cells #[.int .i64 (cmp3 a1 b1), .int .i64 (cmp3 a2 b2)] 3], ?_⟩
  rw [Hgr.out, alloc_eq_grow, grow_grow]
  rfl
/-- Which comes first. -/
def Lex (x y : Int × Int) : Prop := x.1 < y.1 ∨ (x.1 = y.1 ∧ x.2 < y.2)
theorem cmpP_lt (x y : Int × Int) : cmpP x y < 0 ↔ Lex x y := by
  unfold cmpP orI Lex
  have h1 := cmp3_lt x.1 y.1
  have h2 := cmp3_eq x.1 y.1
  have h3 := cmp3_lt x.2 y.2
  by_cases h : cmp3 x.1 y.1 = 0
  · rw [if_neg (by simpa using h), h3]
    have := h2.1 h
    omega
  · rw [if_pos h, h1]
    have := fun e => h (h2.2 e)
    omega
theorem ltP (x y : Int × Int) : ltOf cmpP x y = true ↔ Lex x y := by
  unfold ltOf
  rw [decide_eq_true_iff, cmpP_lt]
theorem swoP : SWO (ltOf cmpP) where
  irrefl x := by rw [Bool.eq_false_iff, Ne, ltP]; unfold Lex; omega
  trans x y z h1 h2 := by rw [ltP] at *; unfold Lex at *; omega
  ntrans x y z h1 h2 := by rw [Bool.eq_false_iff, Ne, ltP] at *; unfold Lex at *; omega
theorem flatP_list (l : List (Int × Int)) : (flatK cellsP 2 l.toArray).toList = l.flatMap cellsP := by
  refine List.ext_getElem? fun t => ?_
  by_cases ht : t < l.length * 2
  · have h1 : (flatK cellsP 2 l.toArray)[t]! = (cellsP l.toArray[t / 2]!)[t % 2]! := get_flatK cellsP 2 l.toArray t (by simpa using ht)
    have ht2 : t / 2 < l.length := by omega
    have h2 : l[t / 2]? = some l[t / 2] := List.getElem?_eq_getElem ht2
    have h3 : l.toArray[t / 2]! = l[t / 2] := by simp [ht2]
    have h5 : t % 2 < (cellsP l[t / 2]).length := by rw [cellsP_len]; omega
    have h4 := getElem_tup cellsP_len l (t / 2) _ h2 (t % 2) _ (List.getElem?_eq_getElem h5)
    rw [show t / 2 * 2 + t % 2 = t by omega] at h4
    rw [h4, Array.getElem?_toList]
    have hs : t < (flatK cellsP 2 l.toArray).size := by simpa using ht
    rw [Array.getElem?_eq_getElem hs]
    rw [getElem!_pos (flatK cellsP 2 l.toArray) t hs, h3] at h1
    rw [h1, getElem!_pos (cellsP l[t / 2]) (t % 2) h5]
  · rw [List.getElem?_eq_none (by simp; omega), List.getElem?_eq_none (by rw [length_tup cellsP_len]; omega)]
/-- A row behind the sort. -/
theorem sorted_ownP {B : Nat} {w : World} {g cap m : Nat} {e : TypeId} {cur : Array Value} {l d : List (Int × Int)} (os : Array Obj) (hlen : d.length = l.length) (ho : w.heap[g]? = some (.cells cur e (0, 0))) (hB : B ≤ g) (hcap : l.length ≤ cap) (hm : cap ≤ maxLen) (hs : cur.size = cap * 2) :
    (w.grownBy (sortWorldK cellsP 2 w g 0 m d.toArray os) (some g)) ∧ (sortWorldK cellsP 2 w g 0 m d.toArray os).ownsRow B e 2 (.slice (some ⟨g, 0, none⟩) l.length cap) d.length (d.flatMap cellsP) := by
  have hg : g < w.heap.size := (Array.getElem?_eq_some_iff.1 ho).1
  have hblk : ∀ k, k < w.heap.size → (sortWorldK cellsP 2 w g 0 m d.toArray os).heap[k]? = (w.heap.modify g (onCells (putCells id 0 (flatK cellsP 2 d.toArray))))[k]? := by
    intro k hk
    unfold sortWorldK putRowK putRow
    rw [heap_grow_old]
    · rfl
    · simpa [mapBlock, Sort.ahead] using hk
  refine ⟨⟨rfl, rfl, rfl, ?_, ?_⟩, ?_⟩
  · simp [sortWorldK, putRowK, putRow, mapBlock, grow]
  · intro k hk hne
    rw [hblk k hk, Array.getElem?_modify, if_neg (fun h => hne (by rw [h]))]
  · refine ⟨length_tup cellsP_len d, .inr ⟨g, cap, putCells id 0 (flatK cellsP 2 d.toArray) cur, by rw [hlen], hB, ?_, by rw [hlen]; exact hcap, hm, by simp [putCells, hs], ?_⟩⟩
    · rw [hblk g hg, Array.getElem?_modify, if_pos rfl, ho]; rfl
    · rw [← flatP_list]
      refine List.ext_getElem? fun t => ?_
      by_cases ht : t < d.length * 2
      · rw [List.getElem?_take_of_lt ht, Array.getElem?_toList, Array.getElem?_toList]
        have h1 : t < cur.size := by rw [hs]; omega
        have h2 : t < (flatK cellsP 2 d.toArray).size := by simpa using ht
        have h3 : t < (putCells id 0 (flatK cellsP 2 d.toArray) cur).size := by simpa [putCells] using h1
        rw [Array.getElem?_eq_getElem h3, Array.getElem?_eq_getElem h2]
        simp only [putCells, Array.getElem_mapIdx]
        rw [if_pos ⟨Nat.zero_le _, by omega⟩]
        simp only [Nat.sub_zero, id]
        rw [getElem!_pos (flatK cellsP 2 d.toArray) t h2]
      · rw [List.getElem?_eq_none (by simp; omega), List.getElem?_eq_none (by simp; omega)]
theorem sortP_any (B : Nat) (w0 w : World) (L : List Ent) (i : Nat) (v : Value) (l : List (Int × Int)) (hM : Mem B w0 w L) (hi : L[i]? = some (rowT 53 2 cellsP v l)) (hl : l.length ≤ 1000) :
    Calls Try.prog 55 #[v, .func (.func 56) #[] #[]] w fun e w' => e = .returned (.tuple #[]) ∧ ∃ d : List (Int × Int), d.Perm l ∧ Mem B w0 w' (L.set i (rowT 53 2 cellsP v d)) := by
  have hr := hM.row i hi
  have hnone : ∀ p cap, v = .slice p 0 cap → l = [] → Calls Try.prog 55 #[v, .func (.func 56) #[] #[]] w fun e w' => e = .returned (.tuple #[]) ∧ ∃ d : List (Int × Int), d.Perm l ∧ Mem B w0 w' (L.set i (rowT 53 2 cellsP v d)) := by
    rintro p cap rfl rfl
    have h := AnyF.slices_SortFunc_none Try.laySortFunc p cap (.func (.func 56) #[] #[]) w
    refine h.mono ?_
    rintro e w' ⟨rfl, rfl⟩
    refine ⟨rfl, [], .nil, ?_⟩
    obtain ⟨hlt, hx⟩ := List.getElem?_eq_some_iff.1 hi
    rw [← hx, List.set_getElem_self]
    exact hM
  rcases hr.2 with ⟨rfl, hn⟩ | ⟨g, cap, cur, rfl, hB, ho, hcap, hm, hs, htk⟩
  · exact hnone none 0 rfl (List.length_eq_zero_iff.1 hn)
  · by_cases h0 : l = []
    · subst h0
      exact hnone _ cap rfl rfl
    · have hg : g < w.heap.size := (Array.getElem?_eq_some_iff.1 ho).1
      have hH : HoldsK cellsP 2 w g 0 l.toArray := by
        intro j hj
        have hj2 : j < l.length * 2 := by simpa using hj
        have h1 : j < cur.size := by rw [hs]; omega
        refine ⟨?_, ?_⟩
        · have h2 : (l.flatMap cellsP)[j]? = cur[j]? := by
            rw [← htk, List.getElem?_take_of_lt hj2, Array.getElem?_toList]
          rw [← flatP_list, Array.getElem?_toList, Array.getElem?_eq_getElem hj] at h2
          rw [getElem!_pos (flatK cellsP 2 l.toArray) j hj, Nat.zero_add]
          simp only [World.cell?, ho]
          exact h2.symm
        · simp [World.frozen?, ho]
      have eg : ∀ args w, (callFunc 56 args).run Try.prog w = .ok (.enter 56 args) w := enters_of Try.func56 (by kernel_rfl) rfl
      have h := AnyQ.slices_SortFunc Try.laySortFunc 2 Try.isAgg53 Try.sizeOf53 cellsP cellsP_len (fun x v hv => by simp [cellsP] at hv; rcases hv with rfl | rfl <;> rfl) cmpP swoP 56 #[] g 0 cap l.toArray w eg (fun m os dk _ x y => cmpP_any x y _) hH hg (by simp; omega)
      refine h.mono ?_
      rintro e w' ⟨rfl, d', n, os, hp, _, rfl⟩
      obtain ⟨d, rfl⟩ : ∃ d : List (Int × Int), d' = d.toArray := ⟨d'.toList, by simp⟩
      have hsz : d.length = l.length := by simpa using hp.1
      have hperm : d.Perm l := by
        have := hp.2.2
        have e1 : (d.toArray.extract 0 l.toArray.size).toList = d := by simp [← hsz]
        have e2 : (l.toArray.extract 0 l.toArray.size).toList = l := by simp
        rwa [e1, e2] at this
      obtain ⟨h1, h2⟩ := sorted_ownP (B := B) (m := n) os hsz ho hB hcap hm hs
      exact ⟨rfl, d, hperm, hM.turn i hi h1 (row_ok.2 h2) (fun b' e => .inl e)⟩
end Go.Proofs.Ytmmcjjklmcfegaa
