/- weak.alive, strong, walked. -/
import Derived.Test.YtjnbnfmlpdnngaaWa
import Derived.Test.YtjnbnfmlpdnngaaLi
namespace Go.Proofs.Ytjnbnfmlpdnngaa
open Go.RowKit Go.Shelf

def Room (v : Value) : Prop := ∃ a n c, v = .slice a n c ∧ n ≤ c ∧ c ≤ 9223372036854775807
/-- A slice of bools. -/
def IsBools (w : World) (v : Value) (K : List Bool) : Prop :=
  ∃ a cap, v = .slice a K.length cap ∧ K.length ≤ 9223372036854775807 ∧ ∀ k x, K[k]? = some x → ∃ b off, a = some ⟨b, off, none⟩ ∧ b < w.heap.size ∧ w.cell? ⟨b, off + k, none⟩ = some (.bool x)
theorem IsBools.later {w w' : World} {v : Value} {K : List Bool} (h : IsBools w v K) (hb : Below w.heap.size w w') : IsBools w' v K := by
  obtain ⟨a, cap, rfl, hl, hc⟩ := h
  refine ⟨a, cap, rfl, hl, fun k x hx => ?_⟩
  obtain ⟨b, off, ha, h1, h2⟩ := hc k x hx
  exact ⟨b, off, ha, Nat.lt_of_lt_of_le h1 hb.size, (hb.cell (p := ⟨_, _, none⟩) h1).trans h2⟩
theorem IsBools.at {w : World} {v : Value} {K : List Bool} (h : IsBools w v K) {k : Nat} {x : Bool} (hx : K[k]? = some x) :
    ∃ b off cap, v = .slice (some ⟨b, off, none⟩) K.length cap ∧ b < w.heap.size ∧ w.cell? ⟨b, off + k, none⟩ = some (.bool x) := by
  obtain ⟨a, cap, rfl, hl, hc⟩ := h
  obtain ⟨b, off, ha, h1, h2⟩ := hc k x hx
  exact ⟨b, off, cap, by rw [ha], h1, h2⟩
/-- A keeper: a graph, kinds, and what is kept. -/
structure IsKeeper (w : World) (Bk : Nat) (vo vr vk vK : Value) (K : List Bool) : Prop where
  lt : Bk < w.heap.size
  c0 : w.cell? ⟨Bk, 0, none⟩ = some vo
  c1 : w.cell? ⟨Bk, 1, none⟩ = some vr
  c2 : w.cell? ⟨Bk, 2, none⟩ = some vk
  c3 : w.cell? ⟨Bk, 3, none⟩ = some vK
  kept : IsBools w vK K
theorem IsKeeper.later {w w' : World} {Bk : Nat} {vo vr vk vK : Value} {K : List Bool} (h : IsKeeper w Bk vo vr vk vK K) (hb : Below w.heap.size w w') : IsKeeper w' Bk vo vr vk vK K :=
  ⟨Nat.lt_of_lt_of_le h.lt hb.size, (hb.cell (p := ⟨_, _, none⟩) h.lt).trans h.c0, (hb.cell (p := ⟨_, _, none⟩) h.lt).trans h.c1, (hb.cell (p := ⟨_, _, none⟩) h.lt).trans h.c2, (hb.cell (p := ⟨_, _, none⟩) h.lt).trans h.c3, h.kept.later hb⟩
/-- There is room in the slices of fields. -/
def RoomO (w : World) (v : Value) (l : List (List V)) : Prop := ∀ k x b off n cap u, l[k]? = some x → v = .slice (some ⟨b, off, none⟩) n cap → w.cell? ⟨b, off + k, none⟩ = some u → Room u

set_option maxRecDepth 100000 in
set_option maxHeartbeats 1000000 in
theorem alive_any (w : World) (Bk : Nat) (vo vr vk vK : Value) (K : List Bool) (v : V) (hk : IsKeeper w Bk vo vr vk vK K) (hv : v.ref = true → 0 ≤ v.n ∧ v.n < K.length) :
    Calls Try.prog 47 #[.pointer (some ⟨Bk, 0, none⟩), .agg #[.bool v.ref, .int .i64 v.n]] w fun e w' => e = .returned (.bool (aliveB K v)) ∧ Below w.heap.size w w' := by
  obtain ⟨r, n⟩ := v
  have hM0 := (Mem.start w).alloc #[.bool r, .int .i64 n] 84
  have hK := hk.later hM0.below
  have hbd : ∀ k, Below w.heap.size w ((w.alloc (.cells #[.bool r, .int .i64 n] 84)).drewN k) := fun k => below_drewN hM0.below k
  have Hbd := Lib.hid hbd
  have z0 := hk.lt
  have z1 := hK.lt
  cases r with
  | false =>
    clear hM0 hK hbd hk hv
    go_enter Try.func47, Try.ntmps47
    go_wp2
    go_quiet (fail)
    go_wp2
    go_ret
    exact ⟨rfl, Hbd.out _⟩
  | true =>
    have hr := hv rfl
    simp only at hr
    obtain ⟨i, rfl⟩ : ∃ i : Nat, n = (i : Int) := ⟨n.toNat, by omega⟩
    have hi : i < K.length := by omega
    obtain ⟨x, hx⟩ := get_some K i hi
    obtain ⟨b, off, cap, rfl, hb, c4⟩ := hK.kept.at hx
    have hkx : aliveB K ⟨true, (i : Int)⟩ = x := by
      unfold aliveB kp
      rw [Int.toNat_natCast, List.getD_eq_getElem?_getD, hx]
      simp
    have Hkx := Lib.hid hkx
    have c3 := hK.c3
    have hi0 : (0 : Int) ≤ (i : Int) := by omega
    have hi1 : (i : Int) < (K.length : Int) := by omega
    clear hM0 hK hbd hk hv hx hkx
    go_enter Try.func47, Try.ntmps47
    go_wp2
    go_quiet (fail)
    go_wp2
    go_ret
    exact ⟨by rw [Hkx.out]; rfl, Hbd.out _⟩

theorem isVals_tail {w : World} {b off n c : Nat} {f : V} {fs : List V} (h : IsVals w (.slice (some ⟨b, off, none⟩) n c) (f :: fs)) : IsVals w (.slice (some ⟨b, off + 2, none⟩) fs.length (c - 1)) fs := by
  obtain ⟨a', c', hv, hl, hc⟩ := h
  cases hv
  refine ⟨_, _, rfl, by simp at hl; omega, ?_⟩
  intro k x hx
  obtain ⟨b', off', ha, h1, h2, h3, h4⟩ := hc (k + 1) x (by simpa using hx)
  cases ha
  refine ⟨b, off + 2, rfl, h1, ?_, ?_, h4⟩
  · rw [show off + 2 + k * 2 = off + (k + 1) * 2 by omega]; exact h2
  · rw [show off + 2 + k * 2 + 1 = off + (k + 1) * 2 + 1 by omega]; exact h3

def StrongSays (w0 : World) (l : List V) (w w' : World) (e : Ending) : Prop := ∃ u, e = .returned u ∧ IsVals w0 u l ∧ Below w.heap.size w w'
def pairL (K : List Bool) : List V → List V
  | [] => []
  | f :: fs => if aliveB K f then fs else []
theorem strong_eq (g : G) (ks : List Int) (K : List Bool) (i : Int) : strongL g ks K i = if kindAt ks i = 0 then fieldsAt g i else if kindAt ks i = 2 then pairL K (fieldsAt g i) else [] := by
  unfold strongL
  cases fieldsAt g i <;> rfl
set_option maxRecDepth 100000 in
set_option maxHeartbeats 1000000 in
theorem strong_any (g : G) (hG : Good g) (ks : List Int) (w0 w : World) (Bk : Nat) (vo vr vk vK : Value) (K : List Bool) (i : Nat) (hi : i < g.objs.length) (ho : IsObjs w0 vo g.objs) (hro : RoomO w0 vo g.objs) (hks : IsInts w0 vk ks) (hkl : ks.length = g.objs.length)
    (hw : Below w0.heap.size w0 w) (hk : IsKeeper w Bk vo vr vk vK K) (hKl : K.length = g.objs.length) :
    Calls Try.prog 68 #[.pointer (some ⟨Bk, 0, none⟩), .int .i64 i] w fun e w' => StrongSays w0 (strongL g ks K i) w w' e := by
  obtain ⟨o, hob⟩ := get_some _ _ hi
  obtain ⟨kd, hkd⟩ := get_some ks i (by omega)
  obtain ⟨bo, oo, co, u, rfl, hbo0, hbo, c1, hu⟩ := ho.at hw hob
  have hroom := hro i o bo oo _ _ u hob rfl ((hw.cell (p := ⟨_, _, none⟩) hbo0).symm.trans c1)
  obtain ⟨bk, ok, ck, rfl, hbk0, hbk, c2, hkd64⟩ := hks.at hw hkd
  obtain ⟨au, cu, rfl, _⟩ := hu.slice
  obtain ⟨_, _, _, hv, hrm1, hrm2⟩ := hroom
  cases hv
  have hfa : fieldsAt g (i : Int) = o := by unfold fieldsAt; rw [Int.toNat_natCast, List.getD_eq_getElem?_getD, hob]; rfl
  have hka : kindAt ks (i : Int) = kd := by unfold kindAt; rw [Int.toNat_natCast, List.getD_eq_getElem?_getD, hkd]; rfl
  have d0 := hk.c0
  have d2 := hk.c2
  have zk := hk.lt
  have Hu := Lib.hid hu
  have hst : strongL g ks K i = if kd = 0 then o else if kd = 2 then pairL K o else [] := by
    rw [strong_eq, hfa, hka]
  rw [hst]
  have hvin : ∀ v ∈ o, v.ref = true → 0 ≤ v.n ∧ v.n < K.length := by
    intro v hv hr
    rw [hKl]
    have hb := hG.vals v (List.mem_append_right _ (List.mem_flatten.2 ⟨o, List.mem_of_getElem? hob, hv⟩))
    simp [badC, hr] at hb
    omega
  have Hvin := Lib.hid hvin
  have Hk := Lib.hid hk
  have nilI : IsVals w0 (.slice none 0 0) [] := ⟨none, 0, rfl, by simp, by simp⟩
  have Nil := Lib.hid nilI
  have hlc : o.length ≤ cu := by simpa using hrm1
  have hi1 : (i : Int) < (g.objs.length : Int) := by omega
  have hi2 : (i : Int) < (ks.length : Int) := by omega
  clear hst hob hkd hu hfa hka hvin hk nilI ho hro hks
  by_cases h0 : kd = 0
  · subst h0
    rw [if_pos rfl]
    go_enter Try.func68, Try.ntmps68
    go_wp2
    go_ret
    exact ⟨_, rfl, Hu.out, Below.refl _ _⟩
  · rw [if_neg h0]
    by_cases h2 : kd = 2
    · subst h2
      rw [if_pos rfl]
      cases o with
      | nil =>
        go_enter Try.func68, Try.ntmps68
        go_wp2
        go_ret
        exact ⟨_, rfl, Nil.out, Below.refl _ _⟩
      | cons f fs =>
        obtain ⟨bf, off, cf, hv, hbf0, hbf, c4, c5, _⟩ := Hu.out.at (Below.refl _ _) (k := 0) (x := f) rfl
        cases hv
        have c4' : w.cell? ⟨bf, off, none⟩ = some (.bool f.ref) := by have := (hw.cell (p := ⟨bf, off + 0 * 2, none⟩) hbf0).trans c4; simpa using this
        have c5' : w.cell? ⟨bf, off + 1, none⟩ = some (.int .i64 f.n) := by have := (hw.cell (p := ⟨bf, off + 0 * 2 + 1, none⟩) hbf0).trans c5; simpa using this
        have hal := alive_any w Bk _ vr _ vK K f Hk.out (Hvin.out f (by simp))
        have Htl := Lib.hid (isVals_tail Hu.out)
        obtain ⟨al, hale⟩ : ∃ al, aliveB K f = al := ⟨_, rfl⟩
        have hpl : pairL K (f :: fs) = if al = true then fs else [] := by show (if aliveB K f = true then fs else []) = _; rw [hale]
        rw [hpl]
        rw [hale] at hal
        simp only [List.length_cons] at hlc hrm1
        have Hal := Lib.hid hal
        clear hal hale c4 c5 hpl
        cases al with
        | true =>
          rw [if_pos rfl]
          go_enter Try.func68, Try.ntmps68
          go_wp2_with fail
          refine Hal.out.mono ?_
          rintro e w1 ⟨rfl, hb1⟩
          go_wp2
          all_goals
            go_ret
            first
              | exact ⟨_, rfl, Htl.out, hb1⟩
              | (refine ⟨_, rfl, ⟨_, _, rfl, by omega, fun k x hx => ?_⟩, hb1⟩
                 have := (List.getElem?_eq_some_iff.1 hx).1
                 omega)
        | false =>
          rw [if_neg (by simp)]
          go_enter Try.func68, Try.ntmps68
          go_wp2_with fail
          refine Hal.out.mono ?_
          rintro e w1 ⟨rfl, hb1⟩
          go_wp2
          go_ret
          exact ⟨_, rfl, Nil.out, hb1⟩
    · rw [if_neg h2]
      have hz0 : (kd == 0) = false := by simpa using h0
      have hz2 : (kd == 2) = false := by simpa using h2
      go_enter Try.func68, Try.ntmps68
      go_wp2
      go_ret
      exact ⟨_, rfl, Nil.out, Below.refl _ _⟩
end Go.Proofs.Ytjnbnfmlpdnngaa
