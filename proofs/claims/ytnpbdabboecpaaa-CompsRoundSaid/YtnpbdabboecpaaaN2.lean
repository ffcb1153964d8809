/- slices.Max, slices.Index, slices.Clone of ints, in plain words. -/
import Derived.Test.YtnpbdabboecpaaaMi
import Derived.Test.YtnpbdabboecpaaaEi
import Derived.Test.YtnpbdabboecpaaaSh
namespace Go.Proofs.Ytnpbdabboecpaaa
open Go.RowKit Go.Shelf

set_option maxRecDepth 100000 in
set_option maxHeartbeats 1000000 in
theorem max_any (w : World) (v : Value) (l : List Int) (hl : IsInts w v l) (h0 : 0 < l.length) :
    Calls Try.prog 77 #[v] w fun e w' => ∃ m, e = .returned (.int .i64 m) ∧ m ∈ l ∧ (∀ x ∈ l, x ≤ m) ∧ w' = w := by
  obtain ⟨a, cap, rfl, hc⟩ := hl.slice
  have Hl := Lib.hid hl
  clear hl
  obtain ⟨x0, hx0⟩ := get_some l 0 h0
  obtain ⟨bl, off, cap2, hv, hb, hn, c1, hi⟩ := Hl.out.at (Below.refl _ _) hx0
  cases hv
  have h1 : (1 : Int) ≤ (l.length : Int) := by omega
  have h2 : ¬ (l.length : Int) < 1 := by omega
  rw [Nat.add_zero] at c1
  have Hx0 := Lib.hid hx0
  clear hx0
  go_enter Try.func77, Try.ntmps77
  go_wp2
  go_loop [3, 4] (fun m i => ∃ (k : Nat) (x : Int), 1 ≤ k ∧ k ≤ l.length ∧ i = .int .i64 k ∧ m = .int .i64 x ∧ Hid (x ∈ l ∧ ∀ y ∈ l.take k, y ≤ x)) (fun _ i => l.length - (intOf i).toNat)
  case atStart =>
    refine ⟨1, x0, by omega, by omega, rfl, rfl, Lib.hid ⟨List.mem_of_getElem? Hx0.out, ?_⟩⟩
    intro y hy
    rw [take_succ_some l 0 x0 Hx0.out] at hy
    simp at hy
    omega
  case round =>
    obtain ⟨k, x, hk1, hk, rfl, rfl, hm⟩ := hrel
    by_cases hlt : k < l.length
    · obtain ⟨y, hy⟩ := get_some _ _ hlt
      obtain ⟨bl2, off2, cap3, hv, hb, hn, c2, hi2⟩ := Hl.out.at (Below.refl _ _) hy
      cases hv
      have Hn : Hid (max x y ∈ l ∧ ∀ z ∈ l.take (k + 1), z ≤ max x y) := Lib.hid (by
        refine ⟨?_, ?_⟩
        · rcases Int.le_total x y with h | h
          · rw [Int.max_eq_right h]; exact List.mem_of_getElem? hy
          · rw [Int.max_eq_left h]; exact hm.out.1
        · rw [take_succ_some _ _ _ hy]
          intro z hz
          rcases List.mem_append.1 hz with hz | hz
          · have := hm.out.2 z hz; omega
          · rw [List.mem_singleton.1 hz]; omega)
      have hkn : (k : Int) < (l.length : Int) := by omega
      clear hy hm
      go_wp2
      go_round
      case rel => exact ⟨k + 1, max x y, by omega, by omega, by go_num, by first | rfl | (simp; done) | (simp [Int.max_def]; done), Hn⟩
      case measure => simp [intOf]; omega
    · obtain rfl : k = l.length := by omega
      have Hm : Hid (x ∈ l ∧ ∀ y ∈ l, y ≤ x) := Lib.hid ⟨hm.out.1, fun y hy => hm.out.2 y (by rw [List.take_length]; exact hy)⟩
      go_wp2
      go_ret
      exact ⟨x, rfl, Hm.out.1, Hm.out.2, rfl⟩

set_option maxRecDepth 100000 in
set_option maxHeartbeats 1000000 in
theorem index_any (w : World) (v : Value) (pre suf : List Int) (x : Int) (hl : IsInts w v (pre ++ x :: suf)) (hx : x ∉ pre) :
    Calls Try.prog 78 #[v, .int .i64 x] w fun e w' => e = .returned (.int .i64 (pre.length : Int)) ∧ w' = w := by
  obtain ⟨l, hle⟩ : ∃ l, pre ++ x :: suf = l := ⟨_, rfl⟩
  have hpl : pre.length < l.length := by rw [← hle]; simp
  have hxl : l[pre.length]? = some x := by rw [← hle]; simp
  have hne : ∀ k y, k < pre.length → l[k]? = some y → y ≠ x := by
    intro k y hk hy e
    rw [← hle, List.getElem?_append_left hk] at hy
    exact hx (e ▸ List.mem_of_getElem? hy)
  rw [hle] at hl
  clear hle hx
  obtain ⟨a, cap, rfl, hc⟩ := hl.slice
  have Hl := Lib.hid hl
  have Hxl := Lib.hid hxl
  have Hne := Lib.hid hne
  clear hl hxl hne
  go_enter Try.func78, Try.ntmps78
  go_wp2
  go_loop [8] (fun i => ∃ k : Nat, k ≤ pre.length ∧ i = .int .i64 k) (fun i => l.length - (intOf i).toNat)
  case atStart => exact ⟨0, Nat.zero_le _, rfl⟩
  case round =>
    obtain ⟨k, hk, rfl⟩ := hrel
    have hlt : k < l.length := by omega
    obtain ⟨y, hy⟩ := get_some _ _ hlt
    obtain ⟨bl2, off2, cap3, hv, hb, hn, c2, hi2⟩ := Hl.out.at (Below.refl _ _) hy
    cases hv
    by_cases he : k = pre.length
    · subst he
      have h9 := Hxl.out
      rw [hy] at h9
      cases h9
      clear hy
      go_wp2
      go_ret
      exact ⟨rfl, rfl⟩
    · have hyx : ¬ x = y := fun e => Hne.out k y (by omega) hy e.symm
      clear hy
      go_wp2
      go_round
      case rel => exact ⟨k + 1, by omega, by go_num⟩
      case measure => simp [intOf]; omega

/-- slices.Clone of ints that lie anywhere. -/
theorem clone_any (w : World) (b off n c : Nat) (l : List Int) (hl : l.length = n) (hn : n ≤ 1000000) (hc : ∀ j x, l[j]? = some x → w.cell? ⟨b, off + j, none⟩ = some (.int .i64 x)) :
    Calls Try.prog 79 #[.slice (some ⟨b, off, none⟩) n c] w fun e w' => ∃ v', e = .returned v' ∧ Mem w.heap.size w w' [rowI 3 v' l] := by
  obtain ⟨i, hi, hz, hs, hb⟩ := (show Elem Try.prog 27 3 1 8 (.int .i64 0) from elemInts).info
  subst hl
  refine (Try.slices_Clone i _ 1 8 hi hz hs hb rfl (by decide) (by intro w; kernel_rfl) b off l.length c (l.map (.int .i64)) w (by simp) (by simp only [maxLen]; omega) (by omega) ?_ ?_).mono ?_
  · intro j u hu
    rw [List.getElem?_map] at hu
    obtain ⟨x, hx, rfl⟩ := Option.map_eq_some_iff.1 hu
    exact hc j x hx
  · intro u hu
    obtain ⟨x, _, rfl⟩ := List.mem_map.1 hu
    rfl
  · rintro e w' ⟨v', rfl, hr, _, hb⟩
    exact ⟨v', rfl, ((Mem.start w).callRow hb hr).cast (by simp [rowI])⟩
end Go.Proofs.Ytnpbdabboecpaaa
