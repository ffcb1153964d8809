/- Texts G2 Dn Dm Dr Ci Cj Cn in one. -/
import Derived.Test.YtjnbnfmlpdnngaaBase1
import Derived.Test.YtjnbnfmlpdnngaaBase2
import Derived.Test.YtjnbnfmlpdnngaaC2
import Derived.Test.YtjnbnfmlpdnngaaBase12
/- Refers, walked. -/
namespace Go.Proofs.Ytjnbnfmlpdnngaa
open Go.RowKit

theorem refers_in {l : List V} {k : Nat} {x : Int} {y : V} (hx : l[k]? = some y) (h : (y.ref && (y.n == x)) = true) : refersB l x = true := by
  obtain ⟨r, n⟩ := y
  simp at h
  obtain ⟨rfl, rfl⟩ := h
  simpa [refersB] using List.mem_of_getElem? hx
theorem refers_out {l : List V} {x : Int} (h : NotYet l l.length (fun y => y.ref && (y.n == x))) : refersB l x = false := by
  have := h.all
  simp [refersB]
  intro hm
  simpa using this _ hm

set_option maxHeartbeats 400000 in
theorem refers_any (v : Value) (l : List V) (x : Int) (w : World) (hl : IsVals w v l) :
    Calls Try.prog 64 #[v, .int .i64 x] w fun e w' => e = .returned (.bool (refersB l x)) ∧ Below w.heap.size w w' := by
  obtain ⟨a, cap, rfl, hm⟩ := hl.slice
  have Hl := Lib.hid hl
  clear hl
  go_enter Try.func64, Try.ntmps64
  go_wp2
  go_loopw [9] (fun i wr => ∃ k : Nat, k ≤ l.length ∧ i = .int .i64 k ∧ NotYet l k (fun y => y.ref && (y.n == x)) ∧ Below w.heap.size w wr) (fun i _ => l.length - (intOf i).toNat)
  case atStart => exact ⟨0, Nat.zero_le _, rfl, NotYet.zero _ _, Below.refl _ _⟩
  case round =>
    obtain ⟨k, hk, rfl, hN, hB⟩ := hrel
    by_cases hlt : k < l.length
    · obtain ⟨y, hx⟩ := get_some _ _ hlt
      obtain ⟨b, off, cap2, hv, hb, hn, c1, c2, _⟩ := Hl.out.at hB hx
      cases hv
      have HS := Lib.hid (take_succ_some _ _ _ hx)
      have Hx := Lib.hid hx
      clear hx
      obtain ⟨r, n⟩ := y
      have hBa := fun o => hB.alloc hB.size o
      cases r
      · go_wp2
        go_roundw
        case rel => exact ⟨k + 1, by omega, by go_num, hN.succ HS.out rfl, hBa _⟩
        case measure => simp [intOf]; omega
      · rcases hxy : (n == x) with _ | _
        · go_wp2
          go_roundw
          case rel => exact ⟨k + 1, by omega, by go_num, hN.succ HS.out (by simpa using hxy), hBa _⟩
          case measure => simp [intOf]; omega
        · have HR := Lib.hid (refers_in Hx.out (by simpa using hxy))
          go_wp2
          go_ret
          exact ⟨by rw [HR.out]; rfl, hBa _⟩
    · obtain rfl : k = l.length := by omega
      have HR := Lib.hid (refers_out hN)
      go_wp2
      go_ret
      exact ⟨by rw [HR.out]; rfl, hB⟩
end Go.Proofs.Ytjnbnfmlpdnngaa

/- The plain law of ragpickerref.Dist: what it finds is the least closed set. -/
namespace Go.Proofs.Ytjnbnfmlpdnngaa
def dAt (d : List Int) (i : Nat) : Int := d.getD i (-1)
theorem dAt_some {d : List Int} {i : Nat} {x : Int} (h : d[i]? = some x) : dAt d i = x := by unfold dAt; rw [List.getD_eq_getElem?_getD, h]; rfl
theorem dAt_out {d : List Int} {i : Nat} (h : d.length ≤ i) : dAt d i = -1 := by unfold dAt; rw [List.getD_eq_getElem?_getD, List.getElem?_eq_none h]; rfl
theorem dAt_lt {d : List Int} {i : Nat} (h : 0 ≤ dAt d i) : i < d.length := by
  rcases Nat.lt_or_ge i d.length with h1 | h1
  · exact h1
  · rw [dAt_out h1] at h; omega
theorem dAt_mem {d : List Int} {i : Nat} (h : 0 ≤ dAt d i) : dAt d i ∈ d := by
  have := dAt_lt h
  unfold dAt
  rw [List.getD_eq_getElem?_getD, List.getElem?_eq_getElem this]
  exact List.getElem_mem this
theorem dAt_set {d : List Int} {i : Nat} (hi : i < d.length) (x : Int) (y : Nat) : dAt (d.set i x) y = if y = i then x else dAt d y := by
  unfold dAt
  rw [List.getD_eq_getElem?_getD, List.getElem?_set, List.getD_eq_getElem?_getD]
  by_cases h : i = y
  · subst h; simp [hi]
  · rw [if_neg h, if_neg (fun e => h e.symm)]
def refF (g : G) (i j : Nat) : Prop := refersB (fieldsAt g i) j = true
def ClosedN (g : G) (S : Nat → Prop) : Prop :=
  (∀ j, j < g.objs.length → refersB g.roots j = true → S j) ∧ ∀ i j, i < g.objs.length → j < g.objs.length → S i → refF g i j → S j
/-- The roots' targets known, the first k of them. -/
structure D0 (g : G) (k : Nat) (d : List Int) : Prop where
  len : d.length = g.objs.length
  val : ∀ i, i < k → dAt d i = if refersB g.roots i = true then 0 else -1
theorem D0.start (g : G) : D0 g 0 (List.replicate g.objs.length 0) := ⟨by simp, fun _ h => absurd h (Nat.not_lt_zero _)⟩
theorem D0.yes {g : G} {k : Nat} {d : List Int} (h : D0 g k d) (hk : k < g.objs.length) (hr : refersB g.roots k = true) : D0 g (k + 1) ((d.set k (-1)).set k 0) := by
  refine ⟨by simp [h.len], fun i hi => ?_⟩
  rw [dAt_set (by simp [h.len, hk]), dAt_set (by simp [h.len, hk])]
  by_cases hik : i = k
  · subst hik; simp [hr]
  · rw [if_neg hik, if_neg hik]; exact h.val i (by omega)
theorem D0.no {g : G} {k : Nat} {d : List Int} (h : D0 g k d) (hk : k < g.objs.length) (hr : refersB g.roots k = false) : D0 g (k + 1) (d.set k (-1)) := by
  refine ⟨by simp [h.len], fun i hi => ?_⟩
  rw [dAt_set (by simp [h.len, hk])]
  by_cases hik : i = k
  · subst hik; simp [hr]
  · rw [if_neg hik]; exact h.val i (by omega)
structure DInv (g : G) (t i j : Nat) (d : List Int) : Prop where
  len : d.length = g.objs.length
  sound : ∀ x, 0 ≤ dAt d x → ∀ S, ClosedN g S → S x
  roots : ∀ x, x < g.objs.length → refersB g.roots x = true → 0 ≤ dAt d x
  low : ∀ x (k : Nat), dAt d x = (k : Int) + 1 → ∃ y, dAt d y = (k : Int)
  done : ∀ x, 0 ≤ dAt d x → (dAt d x < t ∨ dAt d x = t ∧ x < i) → ∀ y, y < g.objs.length → refF g x y → 0 ≤ dAt d y
  cur : dAt d i = t → ∀ y, y < j → refF g i y → 0 ≤ dAt d y
theorem D0.all {g : G} {d : List Int} (h : D0 g g.objs.length d) : DInv g 0 0 0 d := by
  have hv : ∀ x, 0 ≤ dAt d x → x < g.objs.length ∧ refersB g.roots x = true ∧ dAt d x = 0 := by
    intro x hx
    have h1 := dAt_lt hx
    rw [h.len] at h1
    have h2 := h.val x h1
    by_cases hr : refersB g.roots x = true
    · rw [if_pos hr] at h2; exact ⟨h1, hr, h2⟩
    · rw [if_neg hr] at h2; omega
  refine ⟨h.len, ?_, ?_, ?_, ?_, ?_⟩
  · intro x hx S hS
    exact hS.1 x (hv x hx).1 (hv x hx).2.1
  · intro x hx hr
    have h2 := h.val x hx
    rw [if_pos hr] at h2; omega
  · intro x k hx
    have := (hv x (by omega)).2.2
    omega
  · intro x hx h1
    have := (hv x hx).2.2
    omega
  · intro _ y hy; exact absurd hy (Nat.not_lt_zero _)
theorem DInv.skip {g : G} {t i j : Nat} {d : List Int} (h : DInv g t i j d) (hn : 0 ≤ dAt d j ∨ refersB (fieldsAt g i) j = false) : DInv g t i (j + 1) d := by
  refine ⟨h.len, h.sound, h.roots, h.low, h.done, fun hi y hy hr => ?_⟩
  rcases Nat.lt_or_ge y j with h1 | h1
  · exact h.cur hi y h1 hr
  · obtain rfl : y = j := by omega
    rcases hn with h2 | h2
    · exact h2
    · unfold refF at hr; rw [h2] at hr; cases hr
theorem DInv.hit {g : G} {t i j : Nat} {d : List Int} (h : DInv g t i j d) (hj : j < g.objs.length) (hd : dAt d i = t) (hneg : dAt d j < 0) (hr : refersB (fieldsAt g i) j = true) : DInv g t i (j + 1) (d.set j ((t : Int) + 1)) := by
  have hs := fun x => dAt_set (d := d) (i := j) (by rw [h.len]; exact hj) ((t : Int) + 1) x
  have hil : i < g.objs.length := by rw [← h.len]; exact dAt_lt (by omega)
  refine ⟨by simp [h.len], ?_, ?_, ?_, ?_, ?_⟩
  · intro x hx S hS
    rw [hs] at hx
    by_cases e : x = j
    · subst e; exact hS.2 i x hil hj (h.sound i (by omega) S hS) hr
    · rw [if_neg e] at hx; exact h.sound x hx S hS
  · intro x hx h1
    rw [hs]
    by_cases e : x = j
    · rw [if_pos e]; omega
    · rw [if_neg e]; exact h.roots x hx h1
  · intro x k hx
    rw [hs] at hx
    by_cases e : x = j
    · rw [if_pos e] at hx
      exact ⟨i, by rw [hs, if_neg (by rintro rfl; omega)]; omega⟩
    · rw [if_neg e] at hx
      obtain ⟨y, hy⟩ := h.low x k hx
      exact ⟨y, by rw [hs, if_neg (by rintro rfl; omega)]; exact hy⟩
  · intro x hx h1 y hy hr
    rw [hs] at hx h1 ⊢
    by_cases e : x = j
    · rw [if_pos e] at h1; omega
    · rw [if_neg e] at hx h1
      by_cases e2 : y = j
      · rw [if_pos e2]; omega
      · rw [if_neg e2]; exact h.done x hx h1 y hy hr
  · intro hi y hy hr
    rw [hs] at hi ⊢
    by_cases e2 : y = j
    · rw [if_pos e2]; omega
    · rw [if_neg e2]
      exact h.cur hd y (by omega) hr
theorem DInv.next {g : G} {t i j : Nat} {d : List Int} (h : DInv g t i j d) (he : dAt d i ≠ t ∨ j = g.objs.length) : DInv g t (i + 1) 0 d := by
  refine ⟨h.len, h.sound, h.roots, h.low, ?_, fun _ y hy => absurd hy (Nat.not_lt_zero _)⟩
  intro x hx h1 y hy hr
  by_cases h2 : dAt d x < t ∨ dAt d x = t ∧ x < i
  · exact h.done x hx h2 y hy hr
  · obtain rfl : x = i := by omega
    rcases he with h3 | h3
    · omega
    · exact h.cur (by omega) y (by omega) hr
theorem DInv.turn {g : G} {t j : Nat} {d : List Int} (h : DInv g t g.objs.length j d) : DInv g (t + 1) 0 0 d := by
  refine ⟨h.len, h.sound, h.roots, h.low, ?_, fun _ y hy => absurd hy (Nat.not_lt_zero _)⟩
  intro x hx h1 y hy hr
  have := dAt_lt hx
  rw [h.len] at this
  exact h.done x hx (by omega) y hy hr
theorem DInv.chain {g : G} {t i j : Nat} {d : List Int} (h : DInv g t i j d) : ∀ (k x : Nat), dAt d x = (k : Int) → ∀ m, m ≤ k → (m : Int) ∈ d
  | 0, x, hx, m, hm => by
    obtain rfl : m = 0 := by omega
    rw [← hx]; exact dAt_mem (by omega)
  | k + 1, x, hx, m, hm => by
    rcases Nat.lt_or_ge k m with h1 | h1
    · obtain rfl : m = k + 1 := by omega
      rw [← hx]; exact dAt_mem (by omega)
    · obtain ⟨y, hy⟩ := h.low x k (by rw [hx]; omega)
      exact h.chain k y hy m h1
theorem range_mem_len : ∀ (n : Nat) (l : List Int), (∀ m, m < n → (m : Int) ∈ l) → n ≤ l.length
  | 0, _, _ => Nat.zero_le _
  | n + 1, l, h => by
    have h1 := h n (Nat.lt_succ_self n)
    have h2 := range_mem_len n (l.erase (n : Int)) (fun m hm => (List.mem_erase_of_ne (by omega)).2 (h m (by omega)))
    rw [List.length_erase_of_mem h1] at h2
    have := List.length_pos_of_mem h1
    omega
/-- What ragpickerref.Dist hands back. -/
structure DistR (g : G) (d : List Int) : Prop where
  len : d.length = g.objs.length
  sound : ∀ x, 0 ≤ dAt d x → ∀ S, ClosedN g S → S x
  closed : ClosedN g (fun x => 0 ≤ dAt d x)
  high : ∀ x, dAt d x < g.objs.length
theorem DInv.fin {g : G} {d : List Int} (h : DInv g g.objs.length 0 0 d) : DistR g d := by
  have hh : ∀ x, dAt d x < g.objs.length := by
    intro x
    rcases Int.lt_or_le (dAt d x) 0 with h1 | h1
    · omega
    · obtain ⟨k, hk⟩ : ∃ k : Nat, dAt d x = (k : Int) := ⟨(dAt d x).toNat, by omega⟩
      have := range_mem_len (k + 1) d (fun m hm => h.chain k x hk m (by omega))
      rw [h.len] at this
      omega
  exact ⟨h.len, h.sound, ⟨h.roots, fun i j _ hj hi hr => h.done i hi (Or.inl (hh i)) j hj hr⟩, hh⟩
end Go.Proofs.Ytjnbnfmlpdnngaa

/- ragpickerref.Dist, walked. -/
namespace Go.Proofs.Ytjnbnfmlpdnngaa
open Go.RowKit Go.Shelf

theorem fieldsAt_get {g : G} {i : Nat} {o : List V} (h : g.objs[i]? = some o) : fieldsAt g (i : Int) = o := by
  unfold fieldsAt; rw [Int.toNat_natCast, List.getD_eq_getElem?_getD, h]; rfl
theorem lt_of_some {α : Type} {l : List α} {n i : Nat} {x : α} (h : l[i]? = some x) (hl : l.length = n) : i < n := by rw [← hl]; exact (List.getElem?_eq_some_iff.1 h).1

set_option maxHeartbeats 400000 in
theorem distR_any (g : G) (hn : g.objs.length ≤ 1000) (v : Value) (w : World) (hg : IsGraph w v g) :
    Calls Try.prog 42 #[v] w fun e w' => ∃ d b, e = .returned (.slice (some ⟨b, 0, none⟩) g.objs.length g.objs.length) ∧ DistR g d ∧ Mem w.heap.size w w' [rowI 3 (.slice (some ⟨b, 0, none⟩) g.objs.length g.objs.length) d] := by
  obtain ⟨vo, vr, rfl, ho, hr⟩ := hg
  obtain ⟨ao, co, rfl, hlo⟩ := ho.slice
  obtain ⟨ar, cr, rfl, hlr⟩ := hr.slice
  have Ho := Lib.hid ho
  have Hr := Lib.hid hr
  clear ho hr
  have hM0 := (Mem.start w).alloc #[.slice ao g.objs.length co, .slice ar g.roots.length cr] 25
  go_enter Try.func42, Try.ntmps42
  go_wp2_with (at_make; refine Mem.wp_makeI elemInts rfl _ _ rfl hM0 _ _ g.objs.length rfl rfl (by go_num) (by go_num) hn ?_; intro w1 hM1 hb1)
  have hM1b : Mem w.heap.size w w1 [rowI 3 (.slice (some ⟨w.heap.size + 1, 0, none⟩) g.objs.length g.objs.length) (List.replicate g.objs.length 0), ebox w.heap.size #[.slice ao g.objs.length co, .slice ar g.roots.length cr] 25] := by
    simpa using hM1
  have Hz := Lib.hid (D0.start g)
  clear hM1 hb1 hM0
  go_wp2
  go_loopw [4] (fun i wr => ∃ (k : Nat) (d : List Int), k ≤ g.objs.length ∧ i = .int .i64 k ∧ D0 g k d ∧ Mem w.heap.size w wr [rowI 3 (.slice (some ⟨w.heap.size + 1, 0, none⟩) g.objs.length g.objs.length) d, ebox w.heap.size #[.slice ao g.objs.length co, .slice ar g.roots.length cr] 25])
    (fun i _ => g.objs.length - (intOf i).toNat)
  case atStart => exact ⟨0, _, Nat.zero_le _, rfl, Hz.out, hM1b⟩
  case round =>
    obtain ⟨k, d, hk, rfl, hD, hM⟩ := hrel
    by_cases hlt : k < g.objs.length
    · obtain ⟨x, hx⟩ := get_some d k (by rw [hD.len]; exact hlt)
      obtain ⟨q1, q2⟩ := hM.intAt 0 rfl hx
      have hM3 := hM.setI 0 rfl hD.len k (-1)
      obtain ⟨p0, p1⟩ := hM3.cells2 1 rfl
      have hz : (d.set k (-1))[k]? = some (-1) := by rw [List.getElem?_set_self (by rw [hD.len]; exact hlt)]
      have HD := Lib.hid hD
      have Hz2 := Lib.hid hz
      have HM3 := Lib.hid hM3
      clear hx hD hz hM3 hM
      go_wp2_with fail
      refine (refers_any _ g.roots k _ (Hr.out.later HM3.out.below)).mono ?_
      rintro e w4 ⟨rfl, hb4⟩
      have hM4 := HM3.out.call hb4
      rcases hr : refersB g.roots k with _ | _
      · have HM4 := Lib.hid hM4
        have Hrr := Lib.hid hr
        clear hM4 hr
        go_wp2
        go_roundw
        case rel => exact ⟨k + 1, _, by omega, by go_num, HD.out.no hlt Hrr.out, HM4.out⟩
        case measure => simp [intOf]; omega
      · obtain ⟨q3, q4⟩ := hM4.intAt 0 rfl Hz2.out
        have HM4 := Lib.hid (hM4.setI 0 rfl (by simp [HD.out.len]) k 0)
        have Hrr := Lib.hid hr
        clear hM4 hr
        go_wp2
        go_roundw
        case rel => exact ⟨k + 1, _, by omega, by go_num, HD.out.yes hlt Hrr.out, HM4.out⟩
        case measure => simp [intOf]; omega
    · obtain rfl : k = g.objs.length := by omega
      have HD := Lib.hid hD.all
      have HM := Lib.hid hM
      clear hD hM
      go_wp2
      go_loopw [5] (fun i wr => ∃ (t : Nat) (d : List Int), t ≤ g.objs.length ∧ i = .int .i64 t ∧ DInv g t 0 0 d ∧ Mem w.heap.size w wr [rowI 3 (.slice (some ⟨w.heap.size + 1, 0, none⟩) g.objs.length g.objs.length) d, ebox w.heap.size #[.slice ao g.objs.length co, .slice ar g.roots.length cr] 25])
        (fun i _ => g.objs.length - (intOf i).toNat)
      case atStart => exact ⟨0, _, Nat.zero_le _, rfl, HD.out, HM.out⟩
      case round =>
        clear HD HM
        obtain ⟨t, d, ht, rfl, hD, hM⟩ := hrel
        by_cases htl : t < g.objs.length
        · have HD := Lib.hid hD
          have HM := Lib.hid hM
          clear hD hM
          go_wp2
          go_loopw [6] (fun i wr => ∃ (k : Nat) (d : List Int), k ≤ g.objs.length ∧ i = .int .i64 k ∧ DInv g t k 0 d ∧ Mem w.heap.size w wr [rowI 3 (.slice (some ⟨w.heap.size + 1, 0, none⟩) g.objs.length g.objs.length) d, ebox w.heap.size #[.slice ao g.objs.length co, .slice ar g.roots.length cr] 25])
            (fun i _ => g.objs.length - (intOf i).toNat)
          case atStart => exact ⟨0, _, Nat.zero_le _, rfl, HD.out, HM.out⟩
          case round =>
            clear HD HM
            obtain ⟨k, d, hk, rfl, hD, hM⟩ := hrel
            by_cases hkl : k < g.objs.length
            · have HD := Lib.hid hD
              have HM := Lib.hid hM
              clear hD hM
              go_wp2
              go_loopw [7] (fun i wr => ∃ (j : Nat) (d : List Int), j ≤ g.objs.length ∧ i = .int .i64 j ∧ DInv g t k j d ∧ Mem w.heap.size w wr [rowI 3 (.slice (some ⟨w.heap.size + 1, 0, none⟩) g.objs.length g.objs.length) d, ebox w.heap.size #[.slice ao g.objs.length co, .slice ar g.roots.length cr] 25])
                (fun i _ => g.objs.length - (intOf i).toNat)
              case atStart => exact ⟨0, _, Nat.zero_le _, rfl, HD.out, HM.out⟩
              case round =>
                clear HD HM
                obtain ⟨j, d, hj, rfl, hD, hM⟩ := hrel
                obtain ⟨x, hx⟩ := get_some d k (by rw [hD.len]; exact hkl)
                obtain ⟨q1, q2⟩ := hM.intAt 0 rfl hx
                have hxa := dAt_some hx
                have HD := Lib.hid hD
                have HM := Lib.hid hM
                have Hxa := Lib.hid hxa
                clear hx hD hM hxa
                rcases hxt : (x == (t : Int)) with _ | _
                · have hne : x ≠ (t : Int) := by simpa using hxt
                  have HN := Lib.hid (HD.out.next (Or.inl (by rw [Hxa.out]; exact hne)))
                  clear hne
                  go_wp2
                  go_roundw
                  case rel => exact ⟨k + 1, _, by omega, by go_num, HN.out, HM.out⟩
                  case measure => simp [intOf]; omega
                · have hxe : x = (t : Int) := by simpa using hxt
                  have Hxe := Lib.hid (hxe)
                  clear hxe
                  by_cases hjl : j < g.objs.length
                  · obtain ⟨y, hy⟩ := get_some d j (by rw [HD.out.len]; exact hjl)
                    obtain ⟨q3, q4⟩ := HM.out.intAt 0 rfl hy
                    have hya := dAt_some hy
                    rcases hy0 : decide (y < 0) with _ | _
                    · have HN := Lib.hid (HD.out.skip (Or.inl (by rw [hya]; simpa using hy0)))
                      clear hy hya
                      go_wp2
                      go_roundw
                      case rel => exact ⟨j + 1, _, by omega, by go_num, HN.out, HM.out⟩
                      case measure => simp [intOf]; omega
                    · obtain ⟨ob, hob⟩ := get_some _ _ hkl
                      obtain ⟨b, off, cap2, uo, hv, hb, hn2, c1, huo⟩ := Ho.out.at HM.out.below hob
                      cases hv
                      obtain ⟨au, cu, rfl, hlu⟩ := huo.slice
                      obtain ⟨p0, p1⟩ := HM.out.cells2 1 rfl
                      have hya2 : dAt d j < 0 := by rw [hya]; simpa using hy0
                      have Hya := Lib.hid hya2
                      have Hy := Lib.hid hy
                      have Huo := Lib.hid huo
                      have Hob := Lib.hid (fieldsAt_get hob)
                      clear hy hya hob huo hya2
                      go_wp2_with fail
                      refine (refers_any _ ob j _ (Huo.out.later HM.out.below)).mono ?_
                      rintro e w4 ⟨rfl, hb4⟩
                      have hM4 := HM.out.call hb4
                      rcases hr : refersB ob j with _ | _
                      · have HN := Lib.hid (HD.out.skip (Or.inr (by rw [Hob.out]; exact hr)))
                        have HM4 := Lib.hid hM4
                        clear hM4 hr
                        go_wp2
                        go_roundw
                        case rel => exact ⟨j + 1, _, by omega, by go_num, HN.out, HM4.out⟩
                        case measure => simp [intOf]; omega
                      · have HN := Lib.hid (HD.out.hit hjl (by rw [Hxa.out]; exact Hxe.out) Hya.out (by rw [Hob.out]; exact hr))
                        obtain ⟨q5, q6⟩ := hM4.intAt 0 rfl Hy.out
                        have HM4 := Lib.hid (hM4.setI 0 rfl HD.out.len j ((t : Int) + 1))
                        clear hM4 hr
                        go_wp2
                        go_roundw
                        case rel => exact ⟨j + 1, _, by omega, by go_num, HN.out, HM4.out⟩
                        case measure => simp [intOf]; omega
                  · obtain rfl : j = g.objs.length := by omega
                    have HN := Lib.hid (HD.out.next (Or.inr rfl))
                    go_wp2
                    go_roundw
                    case rel => exact ⟨k + 1, _, by omega, by go_num, HN.out, HM.out⟩
                    case measure => simp [intOf]; omega
            · obtain rfl : k = g.objs.length := by omega
              have HN := Lib.hid hD.turn
              have HM := Lib.hid hM
              clear hD hM
              go_wp2
              go_roundw
              case rel => exact ⟨t + 1, _, by omega, by go_num, HN.out, HM.out⟩
              case measure => simp [intOf]; omega
        · obtain rfl : t = g.objs.length := by omega
          have HN := Lib.hid hD.fin
          have HM := Lib.hid (show Mem w.heap.size w wr [rowI 3 (.slice (some ⟨w.heap.size + 1, 0, none⟩) g.objs.length g.objs.length) d] from hM.pick0 [0] (by decide) rfl)
          clear hD hM
          go_wp2
          go_ret
          exact ⟨d, _, rfl, HN.out, HM.out⟩
end Go.Proofs.Ytjnbnfmlpdnngaa

/- ragpickerref.Reach, walked. -/
namespace Go.Proofs.Ytjnbnfmlpdnngaa
open Go.RowKit Go.Shelf

def metTo (d : List Int) (k : Nat) : List Int := ((List.range k).filter fun i => decide (0 ≤ dAt d i)).map fun (i : Nat) => (i : Int)
theorem metTo_succ (d : List Int) (k : Nat) : metTo d (k + 1) = metTo d k ++ if 0 ≤ dAt d k then [(k : Int)] else [] := by
  unfold metTo
  rw [List.range_succ, List.filter_append, List.map_append]
  congr 1
  rw [List.filter_cons]
  by_cases h : 0 ≤ dAt d k
  · rw [if_pos h]; simp [h]
  · rw [if_neg h]; simp [h]
theorem metTo_len (d : List Int) (k : Nat) : (metTo d k).length ≤ k := by
  unfold metTo
  rw [List.length_map]
  have := List.length_filter_le (fun i => decide (0 ≤ dAt d i)) (List.range k)
  simpa using this
theorem mem_metTo {d : List Int} {k : Nat} {x : Int} : x ∈ metTo d k ↔ 0 ≤ x ∧ x < k ∧ 0 ≤ dAt d x.toNat := by
  unfold metTo
  simp only [List.mem_map, List.mem_filter, List.mem_range, decide_eq_true_eq]
  constructor
  · rintro ⟨i, ⟨hi, hk⟩, rfl⟩
    exact ⟨by omega, by omega, by simpa using hk⟩
  · rintro ⟨h0, h1, h2⟩
    exact ⟨x.toNat, ⟨by omega, h2⟩, by omega⟩
theorem metTo_rising (d : List Int) (k : Nat) : (metTo d k).Pairwise (· < ·) := by
  unfold metTo
  rw [List.pairwise_map]
  have h : ((List.range k).filter fun i => decide (0 ≤ dAt d i)).Pairwise (· < ·) := List.Pairwise.filter _ List.pairwise_lt_range
  exact h.imp (fun h => by omega)

/-- What ragpickerref.Reach hands back. -/
structure ReachR (g : G) (l : List Int) : Prop where
  rng : ∀ x ∈ l, 0 ≤ x ∧ x < (g.objs.length : Int)
  rising : l.Pairwise (· < ·)
  sound : ∀ x ∈ l, ∀ S, ClosedN g S → S x.toNat
  closed : ClosedN g (fun x => (x : Int) ∈ l)
theorem DistR.reach {g : G} {d : List Int} (h : DistR g d) : ReachR g (metTo d g.objs.length) := by
  refine ⟨fun x hx => ⟨(mem_metTo.1 hx).1, (mem_metTo.1 hx).2.1⟩, metTo_rising _ _, fun x hx S hS => h.sound _ (mem_metTo.1 hx).2.2 S hS, ?_⟩
  have he : ∀ x : Nat, (x : Int) ∈ metTo d g.objs.length ↔ 0 ≤ dAt d x := by
    intro x
    rw [mem_metTo, Int.toNat_natCast]
    constructor
    · exact fun h => h.2.2
    · intro h1
      have := dAt_lt h1
      rw [h.len] at this
      exact ⟨by omega, by omega, h1⟩
  have : (fun x : Nat => (x : Int) ∈ metTo d g.objs.length) = (fun x => 0 ≤ dAt d x) := funext fun x => propext (he x)
  rw [this]
  exact h.closed

set_option maxHeartbeats 400000 in
theorem reachR_any (g : G) (hn : g.objs.length ≤ 1000) (v : Value) (w : World) (hg : IsGraph w v g) :
    Calls Try.prog 13 #[v] w fun e w' => ∃ vl l, e = .returned vl ∧ ReachR g l ∧ Mem w.heap.size w w' [rowI 3 vl l] := by
  have hg0 := hg
  obtain ⟨vo, vr, rfl, ho, hr⟩ := hg
  obtain ⟨ao, co, rfl, hlo⟩ := ho.slice
  obtain ⟨ar, cr, rfl, hlr⟩ := hr.slice
  have Hg := Lib.hid hg0
  clear ho hr hg0
  have hM0 := (Mem.start w).alloc #[.slice ao g.objs.length co, .slice ar g.roots.length cr] 25
  go_enter Try.func13, Try.ntmps13
  go_wp2_with fail
  refine (distR_any g hn _ _ (Hg.out.later hM0.below)).mono ?_
  rintro e w1 ⟨d, b, rfl, hD, hM1⟩
  have hM2 := (hM0.callMem hM1).nilI 3
  have HD := Lib.hid hD
  have HM2 := Lib.hid hM2
  clear hM0 hM1 hM2 hD
  go_wp2
  go_loopw [3, 9] (fun v i wr => ∃ k : Nat, k ≤ g.objs.length ∧ i = .int .i64 k ∧ Mem w.heap.size w wr [rowI 3 v (metTo d k), rowI 3 (.slice (some ⟨b, 0, none⟩) g.objs.length g.objs.length) d, ebox w.heap.size #[.slice ao g.objs.length co, .slice ar g.roots.length cr] 25]) (fun _ i _ => g.objs.length - (intOf i).toNat)
  case atStart => exact ⟨0, Nat.zero_le _, rfl, HM2.out⟩
  case round =>
    clear HM2
    obtain ⟨k, hk, rfl, hM⟩ := hrel
    by_cases hlt : k < g.objs.length
    · obtain ⟨x, hx⟩ := get_some d k (by rw [HD.out.len]; exact hlt)
      obtain ⟨q1, q2⟩ := hM.intAt 1 rfl hx
      have hs := metTo_succ d k
      rw [dAt_some hx] at hs
      have HS := Lib.hid hs
      have hln := metTo_len d k
      have HM := Lib.hid hM
      clear hx hs hM
      rcases hx0 : decide (0 ≤ x) with _ | _
      · have Hn := Lib.hid (show ¬ 0 ≤ x by simpa using hx0)
        go_wp2
        go_roundw
        case rel => exact ⟨k + 1, by omega, by go_num, HM.out.cast (by rw [HS.out, if_neg Hn.out, List.append_nil])⟩
        case measure => simp [intOf]; omega
      · have Hn := Lib.hid (show 0 ≤ x by simpa using hx0)
        go_wp2_with (at_builtin; refine Mem.wp_appI elemInts rfl (.tmp 16) (.tmp 18) rfl HM.out 0 rfl rfl _ (k : Int) _ _ rfl (by simp) (by omega) ?_; intro ad n1 cp w2 hn1 hM3 hs1 hk1 ha1)
        go_roundw
        case rel => exact ⟨k + 1, by omega, by go_num, hM3.cast (by rw [HS.out, if_pos Hn.out]; rfl)⟩
        case measure => simp [intOf]; omega
    · obtain rfl : k = g.objs.length := by omega
      have HM := Lib.hid (hM.pick0 (A' := [rowI 3 _ (metTo d g.objs.length)]) [0] (by decide) rfl)
      have HR := Lib.hid HD.out.reach
      clear hM
      go_wp2
      go_ret
      exact ⟨_, _, rfl, HR.out, HM.out⟩
end Go.Proofs.Ytjnbnfmlpdnngaa

/- Colours: what can't be come to at first goes with the first sweep that is done. Plain. -/
namespace Go.Proofs.Ytjnbnfmlpdnngaa

/-- Nothing leads to some, and they are white. -/
structure Outs (U : Int → Prop) (s : Sm Tx) : Prop where
  col : ∀ j, U j → cAt s.x.col j = 0
  lives : ∀ j, U j → Lives s.os j
  regs : ∀ v ∈ s.regs, v.ref = true → ¬ U v.n
  flds : ∀ (i : Int) (l : List V) v, 0 ≤ i → s.os[i.toNat]? = some (some l) → ¬ U i → v ∈ l → v.ref = true → ¬ U v.n
section
variable {U : Int → Prop} {s : Sm Tx} {b : Int}
theorem Outs.rch (h : Outs U s) (hI : InvT b s) {i : Int} (hi : RchM s.regs s.os i) : ¬ U i := by
  have : ¬ U i ∧ RchM s.regs s.os i := by
    refine hi.least (P := fun i => ¬ U i ∧ RchM s.regs s.os i) (fun v hv hr => ⟨h.regs v hv hr, .root hv hr⟩) ?_
    rintro j l ⟨h1, h2⟩ hl v hv hr
    exact ⟨h.flds j l v (hI.led j h2).1 hl h1 hv hr, .step h2 hl hv hr⟩
  exact this.1
theorem Outs.shades (h : Outs U s) {l : List V} (hl : ∀ v ∈ l, InR s.x.col.length v) (hn : ∀ v ∈ l, v.ref = true → ¬ U v.n) {j : Int} (hj : U j) : cAt (shades s.x.col l) j = 0 := by
  refine Classical.byContradiction fun hne => ?_
  rcases shades_new hl (h.lives j hj).1 hne with h1 | ⟨v, hv, hr, hvn⟩
  · exact h1 (h.col j hj)
  · exact hn v hv hr (hvn ▸ hj)
theorem Outs.work (h : Outs U s) (hI : InvT b s) : Outs U (workS s).1 := by
  unfold workS
  split
  · exact h
  · rename_i i hi
    obtain ⟨hli, hgi⟩ := mem_hueL.1 (List.mem_of_mem_head? (by rw [hi]; exact rfl) : i ∈ hueL s.os s.x.col 1 s.os.length)
    have hob := hli.obj
    have hni : ¬ U i := fun hu => by have := h.col i hu; rw [hgi] at this; cases this
    have hil : i < (s.x.col.length : Int) := by have := hli.lt; rw [hI.cl]; omega
    refine ⟨fun j hj => ?_, h.lives, h.regs, h.flds⟩
    show cAt ((Proofs.Ytjnbnfmlpdnngaa.shades s.x.col (objAt s.os i)).set i.toNat 2) j = 0
    rw [cAt_set _ hli.1 (by rw [shades_len]; exact hil) (h.lives j hj).1, if_neg (show ¬ j = i from fun e => hni (e ▸ hj))]
    exact h.shades (fun v hv => hI.inr _ _ hob v hv) (fun v hv hr => h.flds i _ v hli.1 hob hni hv hr) hj
theorem Outs.sweep (h : Outs U s) (hI : InvT b s) : ((sweepS s).2 ≠ 0 ∧ Outs U (sweepS s).1) ∨ ∀ j, U j → j ∈ (sweepS s).1.x.gone := by
  have hc : ∀ j, U j → cAt (Proofs.Ytjnbnfmlpdnngaa.shades s.x.col s.regs) j = 0 := fun j hj => h.shades hI.regR h.regs hj
  unfold sweepS
  split
  · exact .inl ⟨by show (8 : Int) ≠ 0; decide, ⟨hc, h.lives, h.regs, h.flds⟩⟩
  · right
    intro j hj
    exact List.mem_append_right _ (mem_hueL.2 ⟨h.lives j hj, hc j hj⟩)
theorem cAt_app {c : List Int} {x j : Int} (h0 : 0 ≤ j) (h : j < c.length) : cAt (c ++ [x]) j = cAt c j := by
  unfold cAt
  rw [List.getD_eq_getElem?_getD, List.getD_eq_getElem?_getD, List.getElem?_append_left (by omega)]
theorem Outs.put (h : Outs U s) (hI : InvT b s) {i : Int} {k : Nat} {u : V} (hi : Lives s.os i) (hir : RchM s.regs s.os i) (hk : k < (objAt s.os i).length) (hu : OkV s.os u) (hur : u.ref = true → RchM s.regs s.os u.n) : Outs U ((tKd b).put s i k u) := by
  have hni := h.rch hI hir
  have hun : u.ref = true → ¬ U u.n := fun hr => h.rch hI (hur hr)
  have hil : i < (s.x.col.length : Int) := by have := hi.lt; rw [hI.cl]; omega
  have huR : InR s.x.col.length u := fun hr => by have h1 := hu.1 hr; have h2 := h1.lt; have h3 := h1.1; rw [hI.cl]; exact ⟨h3, by omega⟩
  have hold : (objAt s.os i).getD k ⟨false, 0⟩ ∈ objAt s.os i := by
    rw [List.getD_eq_getElem?_getD, List.getElem?_eq_getElem hk]; exact List.getElem_mem _
  have hoR := hI.inr _ _ hi.obj _ hold
  have hon := fun hr => h.flds i _ _ hi.1 hi.obj hni hold hr
  have hsh : ∀ v, InR s.x.col.length v → (v.ref = true → ¬ U v.n) → ∀ j, U j → cAt (shade s.x.col v) j = 0 := by
    intro v hv hn j hj
    rw [shade_at hv (h.lives j hj).1, if_neg (show ¬ (v.ref = true ∧ v.n = j ∧ cAt s.x.col j = 0) from fun e => hn e.1 (by rw [e.2.1]; exact hj))]
    exact h.col j hj
  refine ⟨fun j hj => ?_, fun j hj => ?_, h.regs, fun x l v hx hl hnx hv hr => ?_⟩
  · show cAt (barC b s.x.col i ((objAt s.os i).getD k ⟨false, 0⟩) u) j = 0
    unfold barC
    split
    · exact hsh u huR hun j hj
    · split
      · split
        · rw [cAt_set _ hi.1 hil (h.lives j hj).1, if_neg (show ¬ j = i from fun e => hni (e ▸ hj))]
          exact h.col j hj
        · exact h.col j hj
      · exact hsh _ hoR hon j hj
  · have h1 := h.lives j hj
    have hne : j ≠ i := fun e => hni (e ▸ hj)
    obtain ⟨h0, l, hl⟩ := h1
    refine ⟨h0, l, ?_⟩
    show (s.os.set i.toNat _)[j.toNat]? = _
    rw [List.getElem?_set_ne (by have := hi.1; omega)]; exact hl
  · change (s.os.set i.toNat (some ((objAt s.os i).set k u)))[x.toNat]? = some (some l) at hl
    rcases put_get hl hi with h1 | rfl
    · exact h.flds x l v hx h1 hnx hv hr
    · rcases List.mem_or_eq_of_mem_set hv with hv | rfl
      · exact h.flds i _ v hi.1 hi.obj hni hv hr
      · exact hun hr
theorem Outs.set (h : Outs U s) (hI : InvT b s) {r : Int} {v : V} (hv : v.ref = true → RchM s.regs s.os v.n) : Outs U ((tKd b).set s r v) := by
  refine ⟨h.col, h.lives, fun x hx hr => ?_, h.flds⟩
  rcases List.mem_or_eq_of_mem_set hx with hx | rfl
  · exact h.regs x hx hr
  · exact h.rch hI (hv hr)
theorem Outs.step (h : Outs U s) (hI : InvT b s) (d : Dd) : ((d.kind = 9 → (tstep b s d).2.code ≠ 0) ∧ Outs U (tstep b s d).1) ∨ ∀ j, U j → j ∈ (tstep b s d).1.x.gone := by
  by_cases h8 : d.kind = 8
  · have e : tstep b s d = ((workS s).1, ⟨(workS s).2, false, 0⟩) := by unfold tstep; rw [if_pos h8]
    rw [e]
    exact .inl ⟨fun h9 => by omega, h.work hI⟩
  · by_cases h9 : d.kind = 9
    · have e : tstep b s d = ((sweepS s).1, ⟨(sweepS s).2, false, 0⟩) := by unfold tstep; rw [if_neg h8, if_pos h9]
      rw [e]
      rcases h.sweep hI with ⟨h1, h2⟩ | h1
      · exact .inl ⟨fun _ => h1, h2⟩
      · exact .inr h1
    · have e : tstep b s d = (tKd b).step s d := by unfold tstep; rw [if_neg h8, if_neg h9]
      rw [e]
      refine .inl ⟨fun h => absurd h h9, ?_⟩
      refine step_keepR (tKd b) (Outs U) s d h hI.fine (fun v u => hI.fld) (fun r v _ _ _ hr => h.set hI hr) (fun i k u hi hir hk hu hur => h.put hI hi hir hk hu hur) ?_ ?_
      · intro n _ he
        unfold tKd at he ⊢
        simp only at he ⊢
        split at he
        · rename_i hc; rw [if_pos hc]; exact h
        · cases he
      · intro n o r _ _ _ he
        unfold tKd at he ⊢
        simp only at he ⊢
        split at he
        · cases he
        · rename_i hc
          rw [if_neg hc]
          have he := Option.some.inj he
          subst he
          refine ⟨fun j hj => ?_, fun j hj => ?_, fun x hx hr => ?_, fun x l v hx hl hnx hv hr => ?_⟩
          · have h1 := h.lives j hj
            have := h1.lt
            show cAt (s.x.col ++ [2]) j = 0
            rw [cAt_app h1.1 (by rw [hI.cl]; have := h1.1; omega)]; exact h.col j hj
          · obtain ⟨h0, l, hl⟩ := h.lives j hj
            refine ⟨h0, l, ?_⟩
            show (s.os ++ [_])[j.toNat]? = _
            rw [List.getElem?_append_left (List.getElem?_eq_some_iff.1 hl).1]; exact hl
          · rcases List.mem_or_eq_of_mem_set hx with hx | rfl
            · exact h.regs x hx hr
            · intro hu
              have := (h.lives _ hu).lt
              simp only [Int.toNat_natCast] at this
              omega
          · change (s.os ++ [some (zerosV n)])[x.toNat]? = some (some l) at hl
            by_cases hlt : x.toNat < s.os.length
            · rw [List.getElem?_append_left hlt] at hl
              exact h.flds x l v hx hl hnx hv hr
            · rw [List.getElem?_append_right (by omega)] at hl
              have hz : l = zerosV n := by
                cases hx2 : x.toNat - s.os.length with
                | zero => rw [hx2] at hl; cases hl; rfl
                | succ m => rw [hx2] at hl; simp at hl
              subst hz
              have : v = ⟨false, 0⟩ := List.eq_of_mem_replicate hv
              subst this
              cases hr
end
/-- What can't be come to from the start. -/
def OutS (g : G) (j : Int) : Prop := (0 ≤ j ∧ j < (g.objs.length : Int)) ∧ ¬ RchM (firstR g.roots) (g.objs.map some) j
theorem outs_start {g : G} (hG : Good g) : Outs (OutS g) (startT g) := by
  have hI := startT_inv hG 1
  have hregR : ∀ v ∈ firstR g.roots, InR g.objs.length v := by
    intro v hv
    have := hI.regR v hv
    rwa [hI.cl, show (startT g).os.length = g.objs.length by simp [startT]] at this
  refine ⟨fun j hj => ?_, fun j hj => ?_, fun v hv hr h => h.2 (.root hv hr), fun i l v hi hl hni hv hr h => ?_⟩
  · show cAt (beginC g.objs.length (firstR g.roots)) j = 0
    rw [beginC_at hregR hj.1.1, if_neg]
    intro h
    obtain ⟨v, hv, hr, rfl⟩ := mem_targets_iff'.1 h
    exact hj.2 (.root hv hr)
  · exact (startI_inv hG).lives hj.1.1 (by rw [show (startI g).os.length = g.objs.length by simp [startI]]; exact hj.1.2)
  · change (g.objs.map some)[i.toNat]? = some (some l) at hl
    have hlt : i < (g.objs.length : Int) := by
      have := (List.getElem?_eq_some_iff.1 hl).1
      rw [List.length_map] at this; omega
    have hri : RchM (firstR g.roots) (g.objs.map some) i := Classical.byContradiction fun hn => hni ⟨⟨hi, hlt⟩, hn⟩
    exact h.2 (.step hri hl hv hr)
section
variable {g : G} (hG : Good g) {b : Int} (hb : b = 1 ∨ b = 2 ∨ b = 3) {ds : List Dd} (hn : ds.length ≤ 100)
include hG hb hn
theorem outs_runs : ∀ k, k ≤ ds.length → ((∀ i d o, i < k → ds[i]? = some d → (runs (tstep b) (startT g) (ds.take k)).2[i]? = some o → d.kind = 9 → o.code ≠ 0) ∧ Outs (OutS g) (runs (tstep b) (startT g) (ds.take k)).1) ∨
    ∀ j, OutS g j → j ∈ (runs (tstep b) (startT g) (ds.take k)).1.x.gone := by
  intro k
  induction k with
  | zero => exact fun _ => .inl ⟨fun i d o hi => absurd hi (by omega), by rw [List.take_zero]; exact outs_start hG⟩
  | succ k ih =>
    intro hk
    obtain ⟨d, hd⟩ : ∃ d, ds[k]? = some d := ⟨ds[k]'(by omega), List.getElem?_eq_getElem (by omega)⟩
    have hI := (runsT_inv hG hb k ds (by omega) (by omega)).1
    have hl : (runs (tstep b) (startT g) (ds.take k)).2.length = k := by rw [runs_len, List.length_take]; omega
    rw [runs_take _ _ hd]
    rcases ih (by omega) with ⟨h1, h2⟩ | h1
    · rcases h2.step hI d with ⟨h3, h4⟩ | h3
      · refine .inl ⟨fun i d' o hi hd' ho h9 => ?_, h4⟩
        by_cases hik : i < k
        · rw [List.getElem?_append_left (by rw [hl]; exact hik)] at ho
          exact h1 i d' o hik hd' ho h9
        · obtain rfl : i = k := by omega
          rw [List.getElem?_append_right (by omega), hl, Nat.sub_self] at ho
          cases ho
          rw [hd] at hd'
          cases hd'
          exact h3 h9
      · exact .inr h3
    · exact .inr fun j hj => (hI.step_gone d).subset (h1 j hj)
/-- Where a sweep was done, all that could not be come to is gone. -/
theorem outs_gone {i : Nat} {d : Dd} {o : Ot} (hd : ds[i]? = some d) (ho : (runs (tstep b) (startT g) ds).2[i]? = some o) (h9 : d.kind = 9) (h0 : o.code = 0) {j : Int} (hj : OutS g j) : j ∈ (runs (tstep b) (startT g) ds).1.x.gone := by
  have h := outs_runs hG hb hn ds.length (Nat.le_refl _)
  rw [List.take_length] at h
  rcases h with ⟨h1, _⟩ | h1
  · exact absurd h0 (h1 i d o (List.getElem?_eq_some_iff.1 hd).1 hd ho h9)
  · exact h1 j hj
end
end Go.Proofs.Ytjnbnfmlpdnngaa

/- TriAll, walked. -/
namespace Go.Proofs.Ytjnbnfmlpdnngaa
open Go.RowKit Go.Shelf

/-- Play, in any world of this call: all three lists. -/
def TPlay4 (g : G) (b : Int) (ds : List Dd) (v u : Value) (w : World) (n nT nK : Nat) : Prop :=
  ∀ (X : World) (L : List Ent) (R : Ending → World → Prop), Mem w.heap.size w X L →
    (∀ aD cD aH cH aK cK w', Mem w.heap.size w w' (rowT 39 3 cellsO (.slice aD n cD) (runs (tstep b) (startT g) ds).2 :: rowT 98 2 cellsC (.slice aH nT cH) (hues (runs (tstep b) (startT g) ds).1 (runs (tstep b) (startT g) ds).1.os.length) :: rowI 3 (.slice aK nK cK) (runs (tstep b) (startT g) ds).1.x.gone :: L) →
      R (.returned (.tuple #[.agg #[.slice aD n cD, .slice aH nT cH, .slice aK nK cK], .int .i64 0])) w') →
    Calls Try.prog 11 #[v, .int .i64 b, u] X R
theorem tPlay4 (g : G) (hG : Good g) (v u : Value) (b : Int) (hb : b = 1 ∨ b = 2 ∨ b = 3) (ds : List Dd) (w : World) (hg : IsGraph w v g) (hu : IsTup 5 cellsD w u ds) (hd : ∀ d ∈ ds, DdOk d) (hn : ds.length ≤ 100) (n nT nK : Nat) (hnn : ds.length = n) (hnT : (hues (runs (tstep b) (startT g) ds).1 (runs (tstep b) (startT g) ds).1.os.length).length = nT) (hnK : (runs (tstep b) (startT g) ds).1.x.gone.length = nK) : TPlay4 g b ds v u w n nT nK := by
  intro X L R hM hR
  refine (tplay_yes g hG v u b hb ds X (hg.later hM.below) (hu.later hM.below) hd hn).mono ?_
  rintro e w' ⟨s, vo, vt, vg, hs, rfl, hM2⟩
  have hI := runsT_inv hG hb ds.length ds (Nat.le_refl _) hn
  rw [List.take_length] at hI
  have h1 := hI.2
  have h2 := hI.1.goneLen
  rw [← hs] at h1 h2
  have hl : (runs (tstep b) (startT g) ds).2.length = ds.length := runs_len _ _ _
  have t1 := hM2.isTup 0 rfl (fun _ => rfl) (by rw [hl]; omega)
  have t2 := hM2.isTup 1 rfl (fun _ => rfl) (by have := hues_le s; omega)
  obtain ⟨aO, cO, rfl, _⟩ := t1.slice
  obtain ⟨aT, cT, rfl, _⟩ := t2.slice
  obtain ⟨aG, cG, rfl⟩ := hM2.intsSlice 2 rfl
  have hM3 := hM.callMem hM2
  subst hs
  rw [hl, hnn] at hM3 ⊢
  rw [hnT] at hM3 ⊢
  rw [hnK] at hM3 ⊢
  exact hR aO cO aT cT aG cG w' hM3
/-- What the reference finds is all that can be come to. -/
theorem reachR_rchM {g : G} (hG : Good g) {l : List Int} (h : ReachR g l) {j : Int} (hj : RchM (firstR g.roots) (g.objs.map some) j) : j ∈ l := by
  have key : ∀ v : V, v.ref = true → v ∈ allV g → 0 ≤ v.n ∧ v.n < (g.objs.length : Int) ∧ (⟨true, ((v.n.toNat : Nat) : Int)⟩ : V) = v := by
    intro v hr hv
    have h1 := ref_in' hG (n := v.n) (by obtain ⟨r, n⟩ := v; cases hr; exact hv)
    refine ⟨h1.1, h1.2, ?_⟩
    rw [Int.toNat_of_nonneg h1.1]
    obtain ⟨r, n⟩ := v
    cases hr; rfl
  have : (0 ≤ j ∧ j < (g.objs.length : Int)) ∧ j ∈ l := by
    refine hj.least (P := fun j => (0 ≤ j ∧ j < (g.objs.length : Int)) ∧ j ∈ l) (fun v hv hr => ?_) (fun i l' hi hl' v hv hr => ?_)
    · have hv2 : v ∈ g.roots := by
        rcases List.mem_append.1 hv with h1 | h1
        · exact h1
        · rw [List.eq_of_mem_replicate h1] at hr; cases hr
      obtain ⟨h1, h2, h3⟩ := key v hr (roots_all g v hv2)
      refine ⟨⟨h1, h2⟩, ?_⟩
      have : ((v.n.toNat : Nat) : Int) ∈ l := h.closed.1 v.n.toNat (by omega) (by unfold refersB; exact decide_eq_true (by rw [h3]; exact hv2))
      rwa [Int.toNat_of_nonneg h1] at this
    · rw [List.getElem?_map] at hl'
      obtain ⟨l2, h4, h5⟩ := Option.map_eq_some_iff.1 hl'
      cases h5
      have hf : fieldsAt g i = l' := by unfold fieldsAt; rw [List.getD_eq_getElem?_getD, h4]; rfl
      have hvf : v ∈ fieldsAt g i := by rw [hf]; exact hv
      obtain ⟨h1, h2, h3⟩ := key v hr (fields_all g i.toNat v (by rw [Int.toNat_of_nonneg hi.1.1]; exact hvf))
      refine ⟨⟨h1, h2⟩, ?_⟩
      have : ((v.n.toNat : Nat) : Int) ∈ l := h.closed.2 i.toNat v.n.toNat (by omega) (by omega) (by show ((i.toNat : Nat) : Int) ∈ l; rw [Int.toNat_of_nonneg hi.1.1]; exact hi.2) (by
        unfold refF refersB
        refine decide_eq_true ?_
        rw [h3, Int.toNat_of_nonneg hi.1.1]; exact hvf)
      rwa [Int.toNat_of_nonneg h1] at this
  exact this.2
theorem outS_of {g : G} (hG : Good g) {l : List Int} (h : ReachR g l) {i : Nat} (hi : i < g.objs.length) (hb : hasB l (i : Int) = false) : OutS g (i : Int) :=
  ⟨⟨by omega, by omega⟩, fun hr => by
    unfold hasB at hb
    exact of_decide_eq_false hb (reachR_rchM hG h hr)⟩
set_option maxRecDepth 100000 in
set_option maxHeartbeats 8000000 in
theorem triAll_good (g : G) (hG : Good g) (v : Value) (au : Option Addr) (cu : Nat) (b : Int) (hb : b = 1 ∨ b = 2 ∨ b = 3) (ds : List Dd) (w : World) (hg : IsGraph w v g) (hu : IsTup 5 cellsD w (.slice au ds.length cu) ds) (hd : ∀ d ∈ ds, DdOk d) (hn : ds.length ≤ 100) :
    Calls Try.prog 3 #[v, .int .i64 b, .slice au ds.length cu] w fun e w' => e = .returned (.bool true) ∧ Below w.heap.size w w' := by
  have Hg := Lib.hid hg
  obtain ⟨vo, vr, rfl, ho, hr⟩ := hg
  obtain ⟨ao, co, rfl, hlo⟩ := ho.slice
  obtain ⟨ar, cr, rfl, hlr⟩ := hr.slice
  have hM0 := (Mem.start w).alloc #[.slice ao g.objs.length co, .slice ar g.roots.length cr] 25
  obtain ⟨L, hL⟩ : ∃ L, ds.length = L := ⟨_, rfl⟩
  obtain ⟨S, hS⟩ : ∃ S, runs (tstep b) (startT g) ds = S := ⟨_, rfl⟩
  have hi := runsT_inv hG hb ds.length ds (Nat.le_refl _) hn
  rw [List.take_length, hS] at hi
  obtain ⟨hi, hi2⟩ := hi
  obtain ⟨nT, hnT⟩ : ∃ nT, (hues S.1 S.1.os.length).length = nT := ⟨_, rfl⟩
  obtain ⟨nK, hnK⟩ : ∃ nK, S.1.x.gone.length = nK := ⟨_, rfl⟩
  have hP := tPlay4 g hG _ _ b hb ds w Hg.out hu hd hn L nT nK hL (by rw [hS]; exact hnT) (by rw [hS]; exact hnK)
  unfold TPlay4 at hP
  have hlo : S.2.length = L := by rw [← hS, runs_len]; exact hL
  have hout := fun (i : Nat) (d : Dd) (o : Ot) (h1 : ds[i]? = some d) (h2 : (runs (tstep b) (startT g) ds).2[i]? = some o) (h3 : d.kind = 9) (h4 : o.code = 0) (j : Int) (hj : OutS g j) => outs_gone hG hb hn h1 h2 h3 h4 hj
  rw [hL] at hP
  rw [hS] at hP hout
  obtain ⟨T1, hT1⟩ : ∃ T1, hues S.1 S.1.os.length = T1 := ⟨_, rfl⟩
  have hgl := hi.goneLen
  have hgok : ∀ x ∈ S.1.x.gone, i64ok x := by
    intro x hx
    obtain ⟨h1, h2, _⟩ := (hi.gone x).1 hx
    have := hi.len
    exact ⟨by omega, by omega⟩
  rw [hT1] at hP
  obtain ⟨O1, hO1⟩ : ∃ O1, S.2 = O1 := ⟨_, rfl⟩
  obtain ⟨G1, hG1⟩ : ∃ G1, S.1.x.gone = G1 := ⟨_, rfl⟩
  rw [hO1, hG1] at hP hout
  rw [hO1] at hlo
  rw [hG1] at hnK hgok hgl
  have HP := Lib.hid hP
  have HM0 := Lib.hid hM0
  have Hout := Lib.hid hout
  have Hlo := Lib.hid hlo
  have HnK := Lib.hid hnK
  have Hgok := Lib.hid hgok
  have HL := Lib.hid hL
  have HG := Lib.hid hG
  have HD := Lib.hid hd
  have Hu := Lib.hid hu
  have hnK2 : nK ≤ 1000 := by have := hi.len; omega
  have hobj := hG.objs
  rw [hL] at hn Hu ⊢
  clear hM0 ho hr hi hi2 hP hlo hT1 hO1 hG1 hnT hnK hL hS hG hd hu hgok hout hgl hb
  go_enter Try.func3, Try.ntmps3
  go_wp2_with fail
  refine HP.out _ _ _ HM0.out ?_
  intro aO cO aT cT aG cG w1 hM1
  have hM1 := hM1.alloc #[.slice aO L cO, .slice aT nT cT, .slice aG nK cG] 31
  obtain ⟨W1, hW1⟩ : ∃ W1, w1.alloc (.cells #[.slice aO L cO, .slice aT nT cT, .slice aG nK cG] 31) = W1 := ⟨_, rfl⟩
  rw [hW1] at hM1
  obtain ⟨b7, hb7⟩ : ∃ b7, w1.heap.size = b7 := ⟨_, rfl⟩
  rw [hb7] at hM1
  have g0 := hM1.cell 4 rfl 0
  have g1 := hM1.cell 4 rfl 1
  have gb := (hM1.box 4 rfl).2.1
  have c0 := hM1.cell 0 rfl 0
  have cb := (hM1.box 0 rfl).2.1
  have HGo := Lib.hid (good_yes _ g W1 (Hg.out.later hM1.below) HG.out)
  have HM1 := Lib.hid hM1
  have HW1 := Lib.hid hW1
  have Hb7 := Lib.hid hb7
  have e0 : ((L : Int) != (L : Int)) = false := by simp
  clear hM1 hW1 hb7 HP HM0
  go_upto_region 2 with (fail)
  rw [HW1.out, Hb7.out]
  go_wp2_with fail
  refine HGo.out.mono ?_
  rintro e w2 ⟨rfl, hb2⟩
  have hM2 := HM1.out.call hb2
  have HM2 := Lib.hid hM2
  clear hM2 hb2 HM1 g0 g1 gb c0 cb HGo
  go_upto_region 6 with (fail)
  go_loopw [9, 10, 11, 40] (fun s9 _ _ s40 wq => ∃ (k : Nat) (sw : Bool), k ≤ L ∧ s40 = .int .i64 (k : Int) ∧ s9 = .bool sw ∧ Hid (sw = true → ∃ (i : Nat) (d : Dd) (o : Ot), ds[i]? = some d ∧ O1[i]? = some o ∧ d.kind = 9 ∧ o.code = 0) ∧ Below w2.heap.size w2 wq) (fun _ _ _ i _ => L - (intOf i).toNat)
  case atStart => exact ⟨0, false, Nat.zero_le _, rfl, rfl, Lib.hid (fun h => by cases h), Below.refl _ _⟩
  case round =>
    obtain ⟨k, sw, hk, rfl, rfl, hsw, hB⟩ := hrel
    have hMr := HM2.out.call hB
    have c0 := hMr.cell 0 rfl 0
    have cb := (hMr.box 0 rfl).2.1
    by_cases hlt : k < L
    · obtain ⟨d, hdk⟩ := get_some ds k (by rw [HL.out]; exact hlt)
      obtain ⟨o, hok⟩ := get_some O1 k (by rw [Hlo.out]; exact hlt)
      obtain ⟨bu, off, cap, hv, _, hb2, hc⟩ := Hu.out.at hMr.below hdk
      cases hv
      have tO := hMr.isTup 1 rfl (fun _ => rfl) (by have := Hlo.out; omega)
      obtain ⟨bo, oo, rfl, _, hbo2, hco⟩ := tO.at2 (Below.refl _ _) hok
      have Hdk := Lib.hid hdk
      have Hok := Lib.hid hok
      obtain ⟨dk, dt, df, da, dn⟩ := d
      obtain ⟨oc, orf, on⟩ := o
      have d0 : wr.cell? ⟨bu, off + k * 5, none⟩ = some (.int .i64 dk) := hc 0 _ rfl
      have d1 : wr.cell? ⟨bu, off + k * 5 + 1, none⟩ = some (.int .i64 dt) := hc 1 _ rfl
      have d2 : wr.cell? ⟨bu, off + k * 5 + 2, none⟩ = some (.int .i64 df) := hc 2 _ rfl
      have d3 : wr.cell? ⟨bu, off + k * 5 + 3, none⟩ = some (.int .i64 da) := hc 3 _ rfl
      have d4 : wr.cell? ⟨bu, off + k * 5 + 4, none⟩ = some (.int .i64 dn) := hc 4 _ rfl
      have o0 : wr.cell? ⟨bo, oo + k * 3, none⟩ = some (.int .i64 oc) := hco 0 _ rfl
      have HB := Lib.hid (hB.alloc hB.size (.cells #[.int .i64 dk, .int .i64 dt, .int .i64 df, .int .i64 da, .int .i64 dn] 37))
      have e1 : (k : Int) < (ds.length : Int) := by omega
      clear hdk hok hc hco hB hMr tO
      cases sw with
      | true =>
        go_wp2_with fail
        go_roundw
        case rel => exact ⟨k + 1, true, by omega, by go_num, rfl, hsw, HB.out⟩
        case measure => simp [intOf]; omega
      | false =>
        by_cases h9 : dk = 9
        · by_cases h0 : oc = 0
          · subst h9 h0
            go_wp2_with fail
            go_roundw
            case rel => exact ⟨k + 1, true, by omega, by go_num, rfl, Lib.hid (fun _ => ⟨k, _, _, Hdk.out, Hok.out, rfl, rfl⟩), HB.out⟩
            case measure => simp [intOf]; omega
          · have h0b : (oc == 0) = false := by simpa using h0
            subst h9
            go_wp2_with fail
            go_roundw
            case rel => exact ⟨k + 1, false, by omega, by go_num, rfl, Lib.hid (fun h => by cases h), HB.out⟩
            case measure => simp [intOf]; omega
        · have h9b : (dk == 9) = false := by simpa using h9
          go_wp2_with fail
          go_roundw
          case rel => exact ⟨k + 1, false, by omega, by go_num, rfl, Lib.hid (fun h => by cases h), HB.out⟩
          case measure => simp [intOf]; omega
    · have e1 : ¬ (k : Int) < (L : Int) := by omega
      have g0 := hMr.cell 4 rfl 0
      have g1 := hMr.cell 4 rfl 1
      have gb := (hMr.box 4 rfl).2.1
      have HRe := Lib.hid (reachR_any g (by omega) _ wr (Hg.out.later hMr.below))
      have HMr := Lib.hid hMr
      clear hMr hB c0 cb
      go_wp2_with fail
      refine HRe.out.mono ?_
      rintro e w5 ⟨vl, l, rfl, hR, hMl⟩
      obtain ⟨al, cl, rfl⟩ := hMl.intsSlice 0 rfl
      have hM5 := HMr.out.callMem hMl
      have HM5 := Lib.hid hM5
      have HR := Lib.hid hR
      have hlen : l.length ≤ 1000000 := by
        have h1 := nodup_sub_le l ((List.range g.objs.length).map fun i : Nat => (i : Int)) (hR.rising.imp (fun h => by omega)) (fun q hq => by
          obtain ⟨h1, h2⟩ := hR.rng q hq
          exact List.mem_map.2 ⟨q.toNat, List.mem_range.2 (by omega), by omega⟩)
        rw [List.length_map, List.length_range] at h1
        omega
      clear hM5 hMl hR HRe HMr g0 g1 gb
      go_upto_region 12 with (fail)
      go_loopw [13] (fun s13 wq => ∃ i : Nat, i ≤ g.objs.length ∧ s13 = .int .i64 (i : Int) ∧ Below w5.heap.size w5 wq) (fun i _ => g.objs.length - (intOf i).toNat)
      case atStart => exact ⟨0, Nat.zero_le _, rfl, Below.refl _ _⟩
      case round =>
        obtain ⟨i, hi, rfl, hB⟩ := hrel
        have hMr := HM5.out.call hB
        have g0 := hMr.cell 5 rfl 0
        have gb := (hMr.box 5 rfl).2.1
        have c2 := hMr.cell 1 rfl 2
        have cb := (hMr.box 1 rfl).2.1
        by_cases hlt2 : i < g.objs.length
        · have e2 : (i : Int) < (g.objs.length : Int) := by omega
          have HB := Lib.hid hB
          cases sw with
          | false =>
            clear hMr hB
            go_wp2_with fail
            go_roundw
            case rel => exact ⟨i + 1, by omega, by go_num, HB.out⟩
            case measure => simp [intOf]; omega
          | true =>
            have hl1 : IsInts wr (.slice al l.length cl) l := isInts_of_own (hMr.row 0 rfl) hlen (fun x hx => by obtain ⟨h1, h2⟩ := HR.out.rng x hx; exact ⟨by omega, by omega⟩)
            have hl2 : IsInts wr (.slice aG nK cG) G1 := isInts_of_own (hMr.row 4 rfl) (by have := HnK.out; omega) Hgok.out
            have HH1 := Lib.hid (has_any _ l (i : Int) wr hl1)
            have HH2 := Lib.hid (has_any _ G1 (i : Int) wr hl2)
            obtain ⟨i0, d, o, hd0, ho0, h9, h0⟩ := hsw.out rfl
            clear hMr hB hl1 hl2
            cases hh : hasB l (i : Int) with
            | true =>
              rw [hh] at HH1
              clear hh
              go_wp2_with fail
              refine HH1.out.mono ?_
              rintro e w6 ⟨rfl, rfl⟩
              go_wp2_with fail
              go_roundw
              case rel => exact ⟨i + 1, by omega, by go_num, HB.out⟩
              case measure => simp [intOf]; omega
            | false =>
              have hin := Hout.out i0 d o hd0 ho0 h9 h0 (i : Int) (outS_of HG.out HR.out hlt2 hh)
              rw [hh] at HH1
              rw [show hasB G1 (i : Int) = true from decide_eq_true hin] at HH2
              clear hh hin
              go_wp2_with fail
              refine HH1.out.mono ?_
              rintro e w6 ⟨rfl, rfl⟩
              go_wp2_with fail
              refine HH2.out.mono ?_
              rintro e w6 ⟨rfl, rfl⟩
              go_wp2_with fail
              go_roundw
              case rel => exact ⟨i + 1, by omega, by go_num, HB.out⟩
              case measure => simp [intOf]; omega
        · have e2 : ¬ (i : Int) < (g.objs.length : Int) := by omega
          have HB := Lib.hid hMr.below
          clear hMr hB
          go_wp2
          go_ret
          exact ⟨rfl, HB.out⟩
end Go.Proofs.Ytjnbnfmlpdnngaa

/- TriAll, walked at every input. -/
namespace Go.Proofs.Ytjnbnfmlpdnngaa
open Go.RowKit Go.Shelf

set_option maxRecDepth 100000 in
set_option maxHeartbeats 2000000 in
theorem triAll_bad (g : G) (v : Value) (u : Value) (b : Int) (ds : List Dd) (hk : ¬ (Good g ∧ (b = 1 ∨ b = 2 ∨ b = 3) ∧ ds.length ≤ 100)) (w : World) (hg : IsGraph w v g) (hu : IsTup 5 cellsD w u ds) :
    Calls Try.prog 3 #[v, .int .i64 b, u] w fun e w' => e = .returned (.bool true) ∧ Below w.heap.size w w' := by
  have Hg := Lib.hid hg
  obtain ⟨au, cu, rfl, _⟩ := hu.slice
  obtain ⟨vo, vr, rfl, ho, hr⟩ := hg
  obtain ⟨ao, co, rfl, hlo⟩ := ho.slice
  obtain ⟨ar, cr, rfl, hlr⟩ := hr.slice
  have hM0 := (Mem.start w).alloc #[.slice ao g.objs.length co, .slice ar g.roots.length cr] 25
  have HP1 := Lib.hid (tplay_no g _ _ b ds _ (Hg.out.later hM0.below) (hu.later hM0.below) hk)
  have HM0 := Lib.hid hM0
  clear hu hM0 ho hr hk
  go_enter Try.func3, Try.ntmps3
  go_wp2_with fail
  refine HP1.out.mono ?_
  rintro e w1 ⟨c, hc, rfl, hb1⟩
  rw [show NilC = .agg #[.slice none 0 0, .slice none 0 0, .slice none 0 0] from rfl]
  have hM1 := (HM0.out.call hb1).alloc #[.slice none 0 0, .slice none 0 0, .slice none 0 0] 31
  have HB := Lib.hid hM1.below
  have hcn : (c != 0) = true := by rw [bne, hc]; rfl
  clear hM1 hb1
  go_wp2
  go_ret
  exact ⟨rfl, HB.out⟩
theorem triAll_walk (W : World) (v0 v1 v2 : Value) (g0 : ∃ g, IsGraph W v0 g) (g1 : ∃ x : Int, v1 = .int .i64 x ∧ i64ok x) (g2 : ∃ ds, IsTup 5 cellsD W v2 ds ∧ ∀ d ∈ ds, DdOk d) :
    Calls Try.prog 3 #[v0, v1, v2] W fun e w' => e = .returned (.bool true) ∧ Below W.heap.size W w' := by
  obtain ⟨g, hg⟩ := g0
  obtain ⟨b, rfl, _⟩ := g1
  obtain ⟨ds, hu, hd⟩ := g2
  by_cases hk : Good g ∧ (b = 1 ∨ b = 2 ∨ b = 3) ∧ ds.length ≤ 100
  · obtain ⟨a, c, rfl, _⟩ := hu.slice
    exact triAll_good g hk.1 v0 a c b hk.2.1 ds W hg hu hd hk.2.2
  · exact triAll_bad g v0 v2 b ds hk W hg hu
end Go.Proofs.Ytjnbnfmlpdnngaa
