/- within, rising, closed, inside, walked. -/
import Derived.Test.YtjeaaiklbefmmaaDi
import Derived.Test.YtjeaaiklbefmmaaG2
import Derived.BigQuiet
namespace Go.Proofs.Ytjeaaiklbefmmaa
open Go.RowKit Go.Shelf

theorem getD_get {l : List Int} {k : Nat} {x : Int} (h : l[k]? = some x) : l.getD k 0 = x := by rw [List.getD_eq_getElem?_getD, h]; rfl

set_option maxHeartbeats 400000 in
theorem within_yes (n : Nat) (v : Value) (l : List Int) (w : World) (hl : IsInts w v l) (h : ∀ x ∈ l, 0 ≤ x ∧ x < (n : Int)) :
    Calls Try.prog 23 #[.int .i64 n, v] w fun e w' => e = .returned (.bool true) ∧ w = w' := by
  obtain ⟨a, cap, rfl, hm⟩ := hl.slice
  have Hl := Lib.hid hl
  have H := Lib.hid h
  clear hl h
  go_enter Try.func23, Try.ntmps23
  go_wp2
  go_loop [9] (fun i => ∃ k : Nat, k ≤ l.length ∧ i = .int .i64 k) (fun i => l.length - (intOf i).toNat)
  case atStart => exact ⟨0, Nat.zero_le _, rfl⟩
  case round =>
    obtain ⟨k, hk, rfl⟩ := hrel
    by_cases hlt : k < l.length
    · obtain ⟨y, hx⟩ := get_some _ _ hlt
      obtain ⟨b, off, cap2, hv, hb, hn, c1, _⟩ := Hl.out.at (Below.refl _ _) hx
      cases hv
      obtain ⟨h0, h1⟩ := H.out y (List.mem_of_getElem? hx)
      have h2 : ¬ y < 0 := by omega
      have h3 : ¬ (n : Int) ≤ y := by omega
      clear hx h0 h1
      go_wp2
      go_round
      case rel => exact ⟨k + 1, by omega, by go_num⟩
      case measure => simp [intOf]; omega
    · obtain rfl : k = l.length := by omega
      go_wp2
      go_ret
      exact ⟨rfl, rfl⟩

def Rising (l : List Int) : Prop := ∀ (k : Nat) (x y : Int), l[k]? = some x → l[k + 1]? = some y → x < y
set_option maxRecDepth 100000 in
set_option maxHeartbeats 400000 in
theorem rising_yes (v : Value) (l : List Int) (w : World) (hl : IsInts w v l) (h : Rising l) :
    Calls Try.prog 27 #[v] w fun e w' => e = .returned (.bool true) ∧ Below w.heap.size w w' := by
  obtain ⟨a, cap, rfl, hm⟩ := hl.slice
  have Hl := Lib.hid hl
  have H := Lib.hid h
  clear hl h
  go_enter Try.func27, Try.ntmps27
  go_wp2
  go_loopw [3] (fun i wr => ∃ k : Nat, k ≤ l.length ∧ i = .int .i64 (k + 1) ∧ Below w.heap.size w wr) (fun i _ => l.length + 1 - (intOf i).toNat)
  case atStart => exact ⟨0, Nat.zero_le _, rfl, Below.refl _ _⟩
  case round =>
    obtain ⟨k, hk, rfl, hB⟩ := hrel
    by_cases hlt : k + 1 < l.length
    · obtain ⟨x, hx⟩ := get_some l k (by omega)
      obtain ⟨y, hy⟩ := get_some l (k + 1) hlt
      obtain ⟨b, off, cap2, hv, hb, hn, c1, _⟩ := Hl.out.at hB hx
      cases hv
      obtain ⟨b', off', cap2', hv', _, _, c2, _⟩ := Hl.out.at hB hy
      cases hv'
      have h0 := H.out k x y hx hy
      have h1 : ¬ y ≤ x := by omega
      have hz : (k : Int) + 1 < l.length := by omega
      have hz2 : k < l.length := by omega
      clear hx hy h0
      go_wp2
      go_quiet (fail)
      go_wp2
      go_roundw
      case rel => exact ⟨k + 1, by omega, by go_num, hB.trans ⟨rfl, rfl, rfl, Nat.le_refl _, fun _ _ => rfl⟩⟩
      case measure => simp [intOf]; omega
    · have hz : ¬ (k : Int) + 1 < l.length := by omega
      go_wp2
      go_ret
      exact ⟨rfl, hB⟩

def insideB (a b : List Int) : Bool := decide (∀ x ∈ a, x ∈ b)
set_option maxHeartbeats 400000 in
theorem inside_yes (u v : Value) (l m : List Int) (w : World) (hl : IsInts w u l) (hm : IsInts w v m) (h : ∀ x ∈ l, x ∈ m) :
    Calls Try.prog 30 #[u, v] w fun e w' => e = .returned (.bool true) ∧ w = w' := by
  obtain ⟨a, cap, rfl, hml⟩ := hl.slice
  obtain ⟨am, cm, rfl, hmm⟩ := hm.slice
  have Hl := Lib.hid hl
  have Hm := Lib.hid hm
  have H := Lib.hid h
  clear hl h hm
  go_enter Try.func30, Try.ntmps30
  go_wp2
  go_loop [9] (fun i => ∃ k : Nat, k ≤ l.length ∧ i = .int .i64 k) (fun i => l.length - (intOf i).toNat)
  case atStart => exact ⟨0, Nat.zero_le _, rfl⟩
  case round =>
    obtain ⟨k, hk, rfl⟩ := hrel
    by_cases hlt : k < l.length
    · obtain ⟨y, hx⟩ := get_some _ _ hlt
      obtain ⟨b, off, cap2, hv, hb, hn, c1, _⟩ := Hl.out.at (Below.refl _ _) hx
      cases hv
      have Hx := Lib.hid (List.mem_of_getElem? hx)
      clear hx
      go_wp2_with fail
      refine (has_yes _ m y _ Hm.out (H.out y Hx.out)).mono ?_
      rintro e w1 ⟨rfl, rfl⟩
      go_wp2
      go_round
      case rel => exact ⟨k + 1, by omega, by go_num⟩
      case measure => simp [intOf]; omega
    · obtain rfl : k = l.length := by omega
      go_wp2
      go_ret
      exact ⟨rfl, rfl⟩

/-- All to which roots, and its own fields, are references is in the set. -/
def Closed (g : G) (s : List Int) : Prop := (∀ j ∈ targets g.roots, j ∈ s) ∧ ∀ i ∈ s, ∀ j ∈ targets (fieldsAt g i), j ∈ s
def ClosedSays (g : G) (s : List Int) (e : Ending) : Prop := ∃ b, e = .returned (.bool b) ∧ (b = true ↔ Closed g s)
theorem targets_one {l : List V} {k : Nat} {j : Int} (h : l[k]? = some ⟨true, j⟩) : j ∈ targets l := mem_targets (List.mem_of_getElem? h) rfl

set_option maxRecDepth 100000 in
set_option maxHeartbeats 4000000 in
theorem closed_any (v : Value) (g : G) (u : Value) (s : List Int) (w : World) (hg : IsGraph w v g) (hs : IsInts w u s) (hr : ∀ i ∈ s, 0 ≤ i ∧ i < (g.objs.length : Int)) :
    Calls Try.prog 28 #[v, u] w fun e w' => ClosedSays g s e ∧ Below w.heap.size w w' := by
  obtain ⟨vo, vr, rfl, ho, hro⟩ := hg
  obtain ⟨ao, co, rfl, hlo⟩ := ho.slice
  obtain ⟨ar, cr, rfl, hlr⟩ := hro.slice
  obtain ⟨asl, csl, rfl, hls⟩ := hs.slice
  have Ho := Lib.hid ho
  have Hro := Lib.hid hro
  have Hs := Lib.hid hs
  have HR := Lib.hid hr
  clear ho hro hs hr
  have hM0 := (Mem.start w).alloc #[.slice ao g.objs.length co, .slice ar g.roots.length cr] 25
  go_enter Try.func28, Try.ntmps28
  go_wp2
  go_loopw [14] (fun i wr => ∃ k : Nat, k ≤ g.roots.length ∧ i = .int .i64 k ∧ (∀ j ∈ targets (g.roots.take k), j ∈ s) ∧ Mem w.heap.size w wr [ebox w.heap.size #[.slice ao g.objs.length co, .slice ar g.roots.length cr] 25]) (fun i _ => g.roots.length - (intOf i).toNat)
  case atStart => exact ⟨0, Nat.zero_le _, rfl, by simp [targets], hM0⟩
  case round =>
    obtain ⟨k, hk, rfl, hN, hM⟩ := hrel
    have p0 : wr.cell? ⟨w.heap.size, 0, none⟩ = some (.slice ao g.objs.length co) := by have := hM.cell 0 rfl 0; simpa using this
    have p1 : wr.cell? ⟨w.heap.size, 1, none⟩ = some (.slice ar g.roots.length cr) := by have := hM.cell 0 rfl 1; simpa using this
    by_cases hlt : k < g.roots.length
    · obtain ⟨y, hx⟩ := get_some _ _ hlt
      obtain ⟨b, off, cap2, hv, hb, hn, c1, c2, _⟩ := Hro.out.at hM.below hx
      cases hv
      have HS := Lib.hid (targets_succ (take_succ_some _ _ _ hx))
      have Hx := Lib.hid hx
      have HN := Lib.hid hN
      have HM := Lib.hid hM
      clear hx hN hM
      obtain ⟨r, n⟩ := y
      cases r
      · go_wp2
        go_roundw
        case rel => exact ⟨k + 1, by omega, by go_num, by rw [HS.out]; simpa using HN.out, HM.out.alloc_ _⟩
        case measure => simp [intOf]; omega
      · by_cases hin : n ∈ s
        · have Hin := Lib.hid hin
          clear hin
          go_wp2_with fail
          refine (has_yes _ s n _ (Hs.out.later (HM.out.alloc_ _).below) Hin.out).mono ?_
          rintro e w1 ⟨rfl, rfl⟩
          go_wp2
          go_roundw
          case rel => exact ⟨k + 1, by omega, by go_num, by rw [HS.out]; intro j hj; rcases List.mem_append.1 hj with h | h; exact HN.out j h; simp at h; subst h; exact Hin.out, HM.out.alloc_ _⟩
          case measure => simp [intOf]; omega
        · have Hin := Lib.hid hin
          clear hin
          go_wp2_with fail
          refine (has_no _ s n _ (Hs.out.later (HM.out.alloc_ _).below) Hin.out).mono ?_
          rintro e w1 ⟨rfl, rfl⟩
          go_wp2
          go_ret
          exact ⟨⟨false, rfl, by simp; exact fun h => Hin.out (h.1 n (targets_one Hx.out))⟩, (HM.out.alloc_ _).below⟩
    · obtain rfl : k = g.roots.length := by omega
      rw [List.take_length] at hN
      have HN := Lib.hid hN
      have HM := Lib.hid hM
      clear hN hM
      go_wp2
      go_loopw [30] (fun i wr => ∃ k : Nat, k ≤ s.length ∧ i = .int .i64 k ∧ (∀ i ∈ s.take k, ∀ j ∈ targets (fieldsAt g i), j ∈ s) ∧ Mem w.heap.size w wr [ebox w.heap.size #[.slice ao g.objs.length co, .slice ar g.roots.length cr] 25]) (fun i _ => s.length - (intOf i).toNat)
      case atStart => exact ⟨0, Nat.zero_le _, rfl, by simp, HM.out⟩
      case round =>
        obtain ⟨k, hk, rfl, hN2, hM⟩ := hrel
        have p0 : wr.cell? ⟨w.heap.size, 0, none⟩ = some (.slice ao g.objs.length co) := by have := hM.cell 0 rfl 0; simpa using this
        by_cases hlt : k < s.length
        · obtain ⟨x, hx⟩ := get_some _ _ hlt
          obtain ⟨bs, offs, cap2, hv, hbs, hns, c1, _⟩ := Hs.out.at hM.below hx
          cases hv
          obtain ⟨hx0, hx1⟩ := HR.out x (List.mem_of_getElem? hx)
          obtain ⟨q, rfl⟩ : ∃ q : Nat, x = (q : Int) := ⟨x.toNat, by omega⟩
          have hq : q < g.objs.length := by omega
          obtain ⟨o, hob⟩ := get_some _ _ hq
          have hfo : fieldsAt g (q : Int) = o := by unfold fieldsAt; rw [Int.toNat_natCast, List.getD_eq_getElem?_getD, hob]; rfl
          obtain ⟨bo, oo, cap3, u, hv2, hbo, hn3, c2, hu⟩ := Ho.out.at hM.below hob
          cases hv2
          obtain ⟨au, cu, rfl, hlu⟩ := hu.slice
          have Hu := Lib.hid hu
          have HS := Lib.hid (take_succ_some _ _ _ hx)
          have Hqs := Lib.hid (List.mem_of_getElem? hx)
          have Hfo := Lib.hid hfo
          have HN2 := Lib.hid hN2
          have HM2 := Lib.hid hM
          clear hx hob hu hfo hN2 hM
          go_wp2
          go_loopw [41] (fun i wr => ∃ m : Nat, m ≤ o.length ∧ i = .int .i64 m ∧ (∀ j ∈ targets (o.take m), j ∈ s) ∧ Mem w.heap.size w wr [ebox w.heap.size #[.slice (some ⟨bo, oo, none⟩) g.objs.length co, .slice ar g.roots.length cr] 25]) (fun i _ => o.length - (intOf i).toNat)
          case atStart => exact ⟨0, Nat.zero_le _, rfl, by simp [targets], HM2.out⟩
          case round =>
            obtain ⟨m, hm, rfl, hN3, hM⟩ := hrel
            by_cases hlt2 : m < o.length
            · obtain ⟨y, hy⟩ := get_some _ _ hlt2
              obtain ⟨b, off, cap2, hv, hb, hn, c3, c4, _⟩ := Hu.out.at hM.below hy
              cases hv
              have HS2 := Lib.hid (targets_succ (take_succ_some _ _ _ hy))
              have Hy := Lib.hid hy
              have HN3 := Lib.hid hN3
              have HM3 := Lib.hid hM
              clear hy hN3 hM
              obtain ⟨r, n⟩ := y
              cases r
              · go_wp2
                go_roundw
                case rel => exact ⟨m + 1, by omega, by go_num, by rw [HS2.out]; simpa using HN3.out, HM3.out.alloc_ _⟩
                case measure => simp [intOf]; omega
              · by_cases hin : n ∈ s
                · have Hin := Lib.hid hin
                  clear hin
                  go_wp2_with fail
                  refine (has_yes _ s n _ (Hs.out.later (HM3.out.alloc_ _).below) Hin.out).mono ?_
                  rintro e w1 ⟨rfl, rfl⟩
                  go_wp2
                  go_roundw
                  case rel => exact ⟨m + 1, by omega, by go_num, by rw [HS2.out]; intro j hj; rcases List.mem_append.1 hj with h | h; exact HN3.out j h; simp at h; subst h; exact Hin.out, HM3.out.alloc_ _⟩
                  case measure => simp [intOf]; omega
                · have Hin := Lib.hid hin
                  clear hin
                  go_wp2_with fail
                  refine (has_no _ s n _ (Hs.out.later (HM3.out.alloc_ _).below) Hin.out).mono ?_
                  rintro e w1 ⟨rfl, rfl⟩
                  go_wp2
                  go_ret
                  exact ⟨⟨false, rfl, by simp; exact fun h => Hin.out (h.2 q Hqs.out n (by rw [Hfo.out]; exact targets_one Hy.out))⟩, (HM3.out.alloc_ _).below⟩
            · obtain rfl : m = o.length := by omega
              rw [List.take_length] at hN3
              have HN3 := Lib.hid hN3
              have HM3 := Lib.hid hM
              clear hN3 hM
              go_wp2
              go_roundw
              case rel =>
                refine ⟨k + 1, by omega, by go_num, ?_, HM3.out⟩
                rw [HS.out]
                intro i hi j hj
                rcases List.mem_append.1 hi with h | h
                · exact HN2.out i h j hj
                · simp at h; subst h; rw [Hfo.out] at hj; exact HN3.out j hj
              case measure => simp [intOf]; omega
        · obtain rfl : k = s.length := by omega
          rw [List.take_length] at hN2
          have HN2 := Lib.hid hN2
          have HM2 := Lib.hid hM
          clear hN2 hM
          go_wp2
          go_ret
          exact ⟨⟨true, rfl, by simp; exact ⟨HN.out, HN2.out⟩⟩, HM2.out.below⟩
end Go.Proofs.Ytjeaaiklbefmmaa
