/- Texts F0 It2 Ck Rf Gc It in one. -/
import Derived.Test.YtjnbnfmlpdnngaaBase1
/- What graph.Found computes, as a function on data; its invariant. Plain. -/
namespace Go.Proofs.Ytjnbnfmlpdnngaa

/-- Found so far, in order; how far each is (-1: not found). -/
abbrev S := List Int × List Int
def take1 (d : Int) (s : S) (i : Int) : S := if s.2.getD i.toNat 0 < 0 then (s.1 ++ [i], s.2.set i.toNat d) else s
def distAt (s : S) (k : Nat) : Int := s.2.getD (s.1.getD k 0).toNat 0
def visitTo (s : S) (k : Nat) (pre : List Int) : S := pre.foldl (fun t j => take1 (distAt t k + 1) t j) s
def visit (g : G) (s : S) (k : Nat) : S := visitTo s k (targets (fieldsAt g (s.1.getD k 0)))
def found0 (n : Nat) (pre : List Int) : S := pre.foldl (take1 0) ([], List.replicate n (-1))
def foundAt (g : G) : Nat → S
  | 0 => found0 g.objs.length (targets g.roots)
  | k + 1 => visit g (foundAt g k) k

structure SInv (n : Nat) (s : S) : Prop where
  len : s.2.length = n
  nodup : s.1.Nodup
  rng : ∀ x ∈ s.1, 0 ≤ x ∧ x < n
  iff : ∀ i, i < n → (0 ≤ s.2.getD i 0 ↔ (i : Int) ∈ s.1)
  low : ∀ x ∈ s.2, -1 ≤ x
  le : ∀ (j : Nat) (x : Int), s.1[j]? = some x → s.2.getD x.toNat 0 ≤ (j : Int)

theorem sinv_start (n : Nat) : SInv n (([], List.replicate n (-1)) : S) := by
  refine ⟨by simp, by simp, by simp, ?_, ?_, by simp⟩
  · intro i hi; simp [hi]
  · intro x hx; have := (List.mem_replicate.1 hx).2; omega

theorem getD_set {l : List Int} {i j : Nat} {v d : Int} (hi : i < l.length) : (l.set i v).getD j d = if i = j then v else l.getD j d := by
  simp only [List.getD_eq_getElem?_getD, List.getElem?_set]
  by_cases h : i = j
  · subst h; simp [hi]
  · simp [h]

theorem take1_inv {n : Nat} {s : S} {x d : Int} (h : SInv n s) (hx : 0 ≤ x ∧ x < n) (hd : 0 ≤ d ∧ d ≤ s.1.length) : SInv n (take1 d s x) := by
  unfold take1
  split
  · rename_i hlt
    have hxn : x.toNat < n := by omega
    have hx2 : ((x.toNat : Nat) : Int) = x := by omega
    have hni : x ∉ s.1 := by
      intro hm
      have := (h.iff x.toNat hxn).2 (by rw [hx2]; exact hm)
      omega
    refine ⟨by simpa using h.len, ?_, ?_, ?_, ?_, ?_⟩
    · rw [List.nodup_append]
      refine ⟨h.nodup, by simp, ?_⟩
      intro a ha b hb
      simp at hb; subst hb
      rintro rfl; exact hni ha
    · intro y hy
      rcases List.mem_append.1 hy with h1 | h1
      · exact h.rng y h1
      · simp at h1; subst h1; exact hx
    · intro i hi
      rw [getD_set (by rw [h.len]; exact hxn)]
      split
      · rename_i he
        subst he
        simp only [hx2]
        constructor
        · intro _; simp
        · intro _; exact hd.1
      · rename_i he
        rw [h.iff i hi, List.mem_append]
        constructor
        · exact .inl
        · rintro (h1 | h1)
          · exact h1
          · simp at h1; omega
    · intro y hy
      rcases List.mem_or_eq_of_mem_set hy with h1 | h1
      · exact h.low y h1
      · omega
    · intro j y hy
      rw [getD_set (by rw [h.len]; exact hxn)]
      rcases Nat.lt_or_ge j s.1.length with hj | hj
      · rw [List.getElem?_append_left hj] at hy
        split
        · rename_i he
          have hm := List.mem_of_getElem? hy
          have hr := h.rng y hm
          have : y = x := by omega
          subst this
          exact (hni hm).elim
        · exact h.le j y hy
      · rw [List.getElem?_append_right hj] at hy
        have hj0 : j = s.1.length := by
          rcases Nat.eq_zero_or_pos (j - s.1.length) with h0 | h0
          · omega
          · rw [List.getElem?_eq_none (by simp; omega)] at hy; cases hy
        subst hj0
        simp at hy; subst hy
        simp; exact hd.2
  · exact h

theorem take1_len (d : Int) (s : S) (x : Int) : s.1.length ≤ (take1 d s x).1.length := by unfold take1; split <;> simp
theorem take1_get {d : Int} {s : S} {x : Int} {k : Nat} {y : Int} (h : s.1[k]? = some y) : (take1 d s x).1[k]? = some y := by
  unfold take1; split
  · rw [List.getElem?_append_left (List.getElem?_eq_some_iff.1 h).1]; exact h
  · exact h

theorem nodup_len : ∀ (n : Nat) (l : List Nat), l.Nodup → (∀ x ∈ l, x < n) → l.length ≤ n := by
  intro n
  induction n with
  | zero => intro l _ h; cases l with
    | nil => simp
    | cons a l => have := h a (by simp); omega
  | succ n ih =>
    intro l hn h
    have h1 := ih (l.erase n) (hn.erase n) (fun x hx => by
      have h2 := h x (List.mem_of_mem_erase hx)
      have h3 : x ≠ n := by rintro rfl; exact (List.Nodup.not_mem_erase hn) hx
      omega)
    by_cases hm : n ∈ l
    · have := List.length_erase_of_mem hm
      omega
    · have := List.erase_of_not_mem hm
      rw [this] at h1; omega

theorem SInv.length_le {n : Nat} {s : S} (h : SInv n s) : s.1.length ≤ n := by
  have := nodup_len n (s.1.map Int.toNat) (by
    unfold List.Nodup
    rw [List.pairwise_map]
    refine List.Pairwise.imp_of_mem ?_ h.nodup
    intro x y hx hy hne he
    have := h.rng x hx; have := h.rng y hy; exact hne (by omega)) (by
    intro x hx
    obtain ⟨y, hy, rfl⟩ := List.mem_map.1 hx
    have := h.rng y hy; omega)
  simpa using this

theorem found0_inv (n : Nat) (pre : List Int) (h : ∀ x ∈ pre, 0 ≤ x ∧ x < (n : Int)) : SInv n (found0 n pre) := by
  unfold found0
  have key : ∀ (pre : List Int) (s : S), SInv n s → (∀ x ∈ pre, 0 ≤ x ∧ x < (n : Int)) → SInv n (pre.foldl (take1 0) s) := by
    intro pre
    induction pre with
    | nil => intro s hs _; exact hs
    | cons a pre ih => intro s hs hp; exact ih _ (take1_inv hs (hp a (by simp)) ⟨by omega, by omega⟩) (fun x hx => hp x (by simp [hx]))
  exact key pre _ (sinv_start n) h

/-- Within a visit of the object at k. -/
structure VInv (n k : Nat) (x : Int) (s : S) : Prop where
  inv : SInv n s
  at_ : s.1[k]? = some x
theorem VInv.dist {n k : Nat} {x : Int} {s : S} (h : VInv n k x s) : 0 ≤ distAt s k ∧ distAt s k ≤ k ∧ distAt s k = s.2.getD x.toNat 0 := by
  have hx := h.inv.rng x (List.mem_of_getElem? h.at_)
  have e : s.1.getD k 0 = x := by rw [List.getD_eq_getElem?_getD, h.at_]; rfl
  unfold distAt
  rw [e]
  refine ⟨(h.inv.iff x.toNat (by omega)).2 ?_, h.inv.le k x h.at_, rfl⟩
  have : ((x.toNat : Nat) : Int) = x := by omega
  rw [this]; exact List.mem_of_getElem? h.at_
theorem VInv.step {n k : Nat} {x : Int} {s : S} (h : VInv n k x s) {j : Int} (hj : 0 ≤ j ∧ j < (n : Int)) : VInv n k x (take1 (distAt s k + 1) s j) := by
  have hk : k < s.1.length := (List.getElem?_eq_some_iff.1 h.at_).1
  have hd := h.dist
  exact ⟨take1_inv h.inv hj ⟨by omega, by omega⟩, take1_get h.at_⟩
theorem visitTo_inv {n k : Nat} {x : Int} : ∀ (pre : List Int) (s : S), VInv n k x s → (∀ j ∈ pre, 0 ≤ j ∧ j < (n : Int)) → VInv n k x (visitTo s k pre) := by
  intro pre
  induction pre with
  | nil => intro s hs _; exact hs
  | cons a pre ih => intro s hs hp; exact ih _ (hs.step (hp a (by simp))) (fun x hx => hp x (by simp [hx]))
theorem visitTo_snoc (s : S) (k : Nat) (pre : List Int) (j : Int) : visitTo s k (pre ++ [j]) = take1 (distAt (visitTo s k pre) k + 1) (visitTo s k pre) j := by simp [visitTo]
theorem found0_snoc (n : Nat) (pre : List Int) (j : Int) : found0 n (pre ++ [j]) = take1 0 (found0 n pre) j := by simp [found0]

/-- References of a good graph are to its objects. -/
theorem Good.target {g : G} (hg : Good g) {l : List V} (hl : ∀ x ∈ l, x ∈ allV g) {i : Int} (hi : i ∈ targets l) : 0 ≤ i ∧ i < (g.objs.length : Int) := by
  obtain ⟨v, hv, rfl⟩ := List.mem_map.1 hi
  obtain ⟨h1, h2⟩ := List.mem_filter.1 hv
  have := hg.vals v (hl v h1)
  unfold badC at this
  rw [if_pos (by simpa using h2)] at this
  split at this
  · cases this
  · omega
theorem roots_all (g : G) : ∀ x ∈ g.roots, x ∈ allV g := fun _ hx => List.mem_append_left _ hx
theorem fields_all (g : G) (i : Int) : ∀ x ∈ fieldsAt g i, x ∈ allV g := by
  intro x hx
  unfold fieldsAt at hx
  rw [List.getD_eq_getElem?_getD] at hx
  cases h : g.objs[i.toNat]? with
  | none => rw [h] at hx; simp at hx
  | some o => rw [h] at hx; exact List.mem_append_right _ (List.mem_flatten.2 ⟨o, List.mem_of_getElem? h, hx⟩)

theorem foundAt_invR {g : G} (hg : Rng g) : ∀ k, (∀ j, j < k → j < (foundAt g j).1.length) → SInv g.objs.length (foundAt g k)
  | 0, _ => found0_inv _ _ fun _ hx => hg.target (roots_all g) hx
  | k + 1, h => by
    have ih := foundAt_invR hg k (fun j hj => h j (by omega))
    have hk := h k (by omega)
    obtain ⟨x, hx⟩ := get_some _ _ hk
    exact (visitTo_inv (x := x) _ _ ⟨ih, hx⟩ fun j hj => hg.target (fields_all g _) hj).inv

theorem foundAt_inv {g : G} (hg : Good g) (k : Nat) (h : ∀ j, j < k → j < (foundAt g j).1.length) : SInv g.objs.length (foundAt g k) := foundAt_invR hg.fits.rng k h
/-- What Found tells. -/
def FoundS (g : G) (l dist : List Int) : Prop := ∃ k, foundAt g k = (l, dist) ∧ k = l.length ∧ (∀ j, j < k → j < (foundAt g j).1.length)
end Go.Proofs.Ytjnbnfmlpdnngaa

/- graph.values: its iterator's contract. -/
namespace Go.Proofs.Ytjnbnfmlpdnngaa
open Go.RowKit Go.Shelf

attribute [local go_sem] Oper.semAt_some

/-- One of the values of a graph. -/
abbrev Vg (g : G) := { x : V // x ∈ allV g }

theorem len_pre {g : G} {pre : List (Vg g)} {l : List V} (h : pre.map (·.1) = l) (hl : l.length ≤ (allV g).length) : pre.length < (allV g).length + 1 := by
  have : pre.length = l.length := by rw [← h, List.length_map]
  omega
theorem mem_roots {g : G} {x : V} (h : x ∈ g.roots) : x ∈ allV g := List.mem_append_left _ h
theorem mem_fields {g : G} {o : List V} {x : V} (ho : o ∈ g.objs) (h : x ∈ o) : x ∈ allV g := List.mem_append_right _ (List.mem_flatten.2 ⟨o, ho, h⟩)
theorem pref_roots (g : G) (k : Nat) : g.roots.take k <+: allV g := (List.take_prefix _ _).trans (List.prefix_append _ _)
theorem pref_objs (g : G) (j : Nat) : g.roots ++ (g.objs.take j).flatten <+: allV g := by
  unfold allV
  refine (List.prefix_append_right_inj _).2 ?_
  conv => rhs; rw [← List.take_append_drop j g.objs, List.flatten_append]
  exact List.prefix_append _ _
theorem pref_fields (g : G) (j k : Nat) (o : List V) (h : g.objs[j]? = some o) : g.roots ++ (g.objs.take j).flatten ++ o.take k <+: allV g := by
  refine List.IsPrefix.trans ?_ (pref_objs g (j + 1))
  rw [take_succ_some _ _ _ h, List.flatten_append, ← List.append_assoc]
  refine (List.prefix_append_right_inj _).2 ?_
  simpa using List.take_prefix k o

set_option maxRecDepth 100000 in
set_option maxHeartbeats 4000000 in
theorem values1_in (n : Nat) (hn : 1 ≤ n) (lp Bs : Nat) (g : G) (vo vr : Value) (w0 : World) (ho : IsObjs w0 vo g.objs) (hr : IsVals w0 vr g.roots) (J Jx : List (Vg g) → World → Prop) (W0 : World)
    (hJ : AbidesFrom W0.heap.size J)
    (hY : ∀ pre x W, J pre W → pre.length < (allV g).length + 1 → YieldAt Fence.wide (n - 1) Try.prog lp #[.agg #[.bool x.1.ref, .int .i64 x.1.n]] W fun e W' =>
      (e = .returned (.bool true) ∧ J (pre ++ [x]) W' ∧ Below (w0.heap.size + 1) W W') ∨ (e = .returned (.bool false) ∧ Jx (pre ++ [x]) W'))
    (hW : Below w0.heap.size w0 W0) (hsz : w0.heap.size < W0.heap.size) (hBs : Bs = w0.heap.size) (hBo : W0.cell? ⟨Bs, 0, none⟩ = some vo) (hBr : W0.cell? ⟨Bs, 1, none⟩ = some vr) (h0 : J [] W0) :
    CallsIn Fence.wide n Try.prog 76 #[.func (.yield lp) #[] #[], .pointer (some ⟨Bs, 0, none⟩)] W0 fun e W' => (∃ v, e = .returned v) ∧
      ((∃ ys : List (Vg g), ys.map (·.1) = allV g ∧ J ys W') ∨ (∃ pre : List (Vg g), pre.map (·.1) <+: allV g ∧ Jx pre W')) := by
  obtain ⟨ao, co, rfl, hlo⟩ := ho.slice
  obtain ⟨ar, cr, rfl, hlr⟩ := hr.slice
  have Ho := Lib.hid ho
  have Hr := Lib.hid hr
  have HBs := Lib.hid hBs
  clear ho hr hBs
  refine callsIn_of_wp Try.func76 rfl trivial ?_ rfl
  simp only [Try.ntmps76, List.size_toArray, List.length_cons, List.length_nil, Nat.reduceAdd, Nat.reduceSub, Array.replicate_succ, Array.replicate_zero, List.push_toArray, List.append_toArray, List.nil_append, List.cons_append]
  gi_wp2
  gi_loopw [12] (fun i wr => ∃ (k : Nat) (pre : List (Vg g)), k ≤ g.roots.length ∧ i = .int .i64 k ∧ pre.map (·.1) = g.roots.take k ∧ J pre wr ∧ Below (w0.heap.size + 1) W0 wr)
    (fun i _ => g.roots.length - (intOf i).toNat)
  case atStart => exact ⟨0, [], Nat.zero_le _, rfl, rfl, h0, Below.refl _ _⟩
  case round =>
    obtain ⟨k, pre, hk, rfl, hpre, hJs, hB⟩ := hrel
    have Hpre := Lib.hid hpre
    clear hpre
    have hB0 : Below w0.heap.size w0 wr := hW.trans (hB.mono (by omega))
    by_cases hlt : k < g.roots.length
    · obtain ⟨x, hx⟩ := get_some _ _ hlt
      obtain ⟨b, off, cap2, hv, hb, hn2, c1, c2, _⟩ := Hr.out.at hB0 hx
      cases hv
      have HS := Lib.hid (take_succ_some _ _ _ hx)
      obtain ⟨xx, hxx⟩ : ∃ xx : Vg g, xx.1 = x := ⟨⟨x, mem_roots (List.mem_of_getElem? hx)⟩, rfl⟩
      clear hx
      have hJ2 := hJ pre wr (wr.alloc (.cells #[.bool x.ref, .int .i64 x.n] 84)) none hJs (World.grownBy_alloc wr _ none) (fun r e => by cases e)
      have hlen : pre.length < (allV g).length + 1 := len_pre Hpre.out (pref_roots g k).length_le
      have hpre2 : (pre ++ [xx]).map (·.1) = g.roots.take (k + 1) := by rw [List.map_append, Hpre.out, HS.out]; simp [hxx]
      have Hp2 := Lib.hid hpre2
      obtain ⟨fn, tmps, assign, body, hy, hR⟩ := hY pre xx _ hJ2 hlen
      rw [hxx] at hy
      clear hxx hpre2
      gi_wp2
      refine hR.mono ?_
      rintro e W3 (⟨rfl, hJ3, hk3⟩ | ⟨rfl, hJx3⟩)
      · gi_wp2
        go_roundw
        case rel => exact ⟨k + 1, _, by omega, by go_num, Hp2.out, hJ3, (hB.alloc (Nat.le_trans (Nat.succ_le_of_lt hsz) hB.size) _).trans hk3⟩
        case measure => simp [intOf]; omega
      · gi_wp2
        refine bodyPost_ret (results_none rfl _ _ _) rfl ?_
        exact ⟨⟨_, rfl⟩, .inr ⟨_, by rw [Hp2.out]; exact pref_roots _ _, hJx3⟩⟩
    · obtain rfl : k = g.roots.length := by omega
      have q0 : wr.cell? ⟨Bs, 0, none⟩ = some (.slice ao g.objs.length co) := (hB.cell (p := ⟨Bs, 0, none⟩) (by rw [HBs.out]; exact Nat.lt_succ_self _)).trans hBo
      have hall : pre.map (·.1) = g.roots ++ (g.objs.take 0).flatten := by have := Hpre.out; rw [List.take_length] at this; simpa using this
      have Hall := Lib.hid hall
      clear hall
      gi_wp2
      gi_loopw [24] (fun i wr => ∃ (j : Nat) (pre : List (Vg g)), j ≤ g.objs.length ∧ i = .int .i64 j ∧ pre.map (·.1) = g.roots ++ (g.objs.take j).flatten ∧ J pre wr ∧ Below (w0.heap.size + 1) W0 wr)
        (fun i _ => g.objs.length - (intOf i).toNat)
      case atStart => exact ⟨0, pre, Nat.zero_le _, rfl, Hall.out, hJs, hB⟩
      case round =>
        obtain ⟨j, pre, hj, rfl, hpre, hJs, hB⟩ := hrel
        have Hpre := Lib.hid hpre
        clear hpre
        have hB0 : Below w0.heap.size w0 wr := hW.trans (hB.mono (by omega))
        by_cases hlt : j < g.objs.length
        · obtain ⟨o, hx⟩ := get_some _ _ hlt
          obtain ⟨b, off, cap, u, hv, hb, hn2, c1, hu⟩ := Ho.out.at hB0 hx
          cases hv
          obtain ⟨ao2, co2, rfl, hlo2⟩ := hu.slice
          have HS := Lib.hid (take_succ_some _ _ _ hx)
          have HU := Lib.hid hu
          have Hx := Lib.hid hx
          clear hx hu
          have hJ2 := fun o => hJ pre wr (wr.alloc o) none hJs (World.grownBy_alloc wr o none) (fun r e => by cases e)
          have hB2 := fun o => hB.alloc (Nat.le_trans (Nat.succ_le_of_lt hsz) hB.size) o
          gi_wp2
          gi_loopw [31] (fun i wr => ∃ (k : Nat) (pre : List (Vg g)), k ≤ o.length ∧ i = .int .i64 k ∧ pre.map (·.1) = g.roots ++ (g.objs.take j).flatten ++ o.take k ∧ J pre wr ∧ Below (w0.heap.size + 1) W0 wr)
            (fun i _ => o.length - (intOf i).toNat)
          case atStart => exact ⟨0, pre, Nat.zero_le _, rfl, by simpa using Hpre.out, hJ2 _, hB2 _⟩
          case round =>
            obtain ⟨k, pre, hk, rfl, hpre, hJs, hB⟩ := hrel
            have Hpre := Lib.hid hpre
            clear hpre
            have hB0 : Below w0.heap.size w0 wr := hW.trans (hB.mono (by omega))
            by_cases hlt : k < o.length
            · obtain ⟨x, hx⟩ := get_some _ _ hlt
              obtain ⟨b, off, cap2, hv, hb, hn2, c1, c2, _⟩ := HU.out.at hB0 hx
              cases hv
              have HS := Lib.hid (take_succ_some _ _ _ hx)
              obtain ⟨xx, hxx⟩ : ∃ xx : Vg g, xx.1 = x := ⟨⟨x, mem_fields (List.mem_of_getElem? Hx.out) (List.mem_of_getElem? hx)⟩, rfl⟩
              clear hx
              have hJ2 := hJ pre wr (wr.alloc (.cells #[.bool x.ref, .int .i64 x.n] 84)) none hJs (World.grownBy_alloc wr _ none) (fun r e => by cases e)
              have hlen : pre.length < (allV g).length + 1 := len_pre Hpre.out (pref_fields g j k o Hx.out).length_le
              have hpre2 : (pre ++ [xx]).map (·.1) = g.roots ++ (g.objs.take j).flatten ++ o.take (k + 1) := by rw [List.map_append, Hpre.out, HS.out]; simp [hxx]
              have Hp2 := Lib.hid hpre2
              obtain ⟨fn, tmps, assign, body, hy, hR⟩ := hY pre xx _ hJ2 hlen
              rw [hxx] at hy
              clear hxx hpre2
              gi_wp2
              refine hR.mono ?_
              rintro e W3 (⟨rfl, hJ3, hk3⟩ | ⟨rfl, hJx3⟩)
              · gi_wp2
                go_roundw
                case rel => exact ⟨k + 1, _, by omega, by go_num, Hp2.out, hJ3, (hB.alloc (Nat.le_trans (Nat.succ_le_of_lt hsz) hB.size) _).trans hk3⟩
                case measure => simp [intOf]; omega
              · gi_wp2
                refine bodyPost_ret (results_none rfl _ _ _) rfl ?_
                exact ⟨⟨_, rfl⟩, .inr ⟨_, by rw [Hp2.out]; exact pref_fields g j (k + 1) o Hx.out, hJx3⟩⟩
            · obtain rfl : k = o.length := by omega
              have hall : pre.map (·.1) = g.roots ++ (g.objs.take (j + 1)).flatten := by rw [Hpre.out, HS.out]; simp
              have Hall := Lib.hid hall
              clear hall
              gi_wp2
              go_roundw
              case rel => exact ⟨j + 1, _, by omega, by go_num, Hall.out, hJs, hB⟩
              case measure => simp [intOf]; omega
        · obtain rfl : j = g.objs.length := by omega
          have hall : pre.map (·.1) = allV g := by have := Hpre.out; rwa [List.take_length] at this
          have Hall := Lib.hid hall
          clear hall
          gi_wp2
          go_end0
          exact ⟨⟨_, rfl⟩, .inl ⟨_, Hall.out, hJs⟩⟩
end Go.Proofs.Ytjnbnfmlpdnngaa

/- graph.Check, walked. -/
namespace Go.Proofs.Ytjnbnfmlpdnngaa
open Go.RowKit Go.Shelf

set_option maxHeartbeats 400000 in
theorem large_any (a : Option Addr) (len cap : Nat) (w : World) :
    Calls Try.prog 52 #[.agg #[.slice a len cap]] w fun e w' => e = .returned (.bool (decide (4 < len))) ∧ Below w.heap.size w w' := by
  go_enter Try.func52, Try.ntmps52
  go_wp2
  go_ret
  exact ⟨by simp <;> omega, (by repeat (first | exact Below.refl _ _ | refine Below.setCell ?_ (by first | exact Nat.le_refl _ | (simp; done) | (simp; omega) | (simp at *; omega)) _ | refine Below.alloc ?_ (by first | exact Nat.le_refl _ | (simp; done) | (simp; omega) | (simp at *; omega)) _ | refine Below.drew ?_ | refine Below.trans ?_ (Below.mono (by assumption) (by first | exact Nat.le_refl _ | (simp; done) | (simp; omega) | (simp at *; omega)))))⟩

def Large (l : List (List V)) (i : Int) : Prop := 0 ≤ i ↔ ∃ o ∈ l, 4 < o.length
def AnyLarge (P : Int → Prop) (e : Ending) : Prop := ∃ i : Int, e = .returned (.int .i64 i) ∧ P i
set_option maxHeartbeats 400000 in
theorem indexLarge_any (v : Value) (l : List (List V)) (w : World) (hl : IsObjs w v l) :
    Calls Try.prog 75 #[v, .func (.func 52) #[] #[]] w fun e w' => AnyLarge (Large l) e ∧ Below w.heap.size w w' := by
  obtain ⟨a, cap, rfl, hm⟩ := hl.slice
  have Hl := Lib.hid hl
  clear hl
  go_enter Try.func75, Try.ntmps75
  go_wp2
  go_loopw [8] (fun i wr => ∃ k : Nat, k ≤ l.length ∧ i = .int .i64 k ∧ NotYet l k (fun o => decide (4 < o.length)) ∧ Below w.heap.size w wr) (fun i _ => l.length - (intOf i).toNat)
  case atStart => exact ⟨0, Nat.zero_le _, rfl, NotYet.zero _ _, Below.refl _ _⟩
  case round =>
    obtain ⟨k, hk, rfl, hN, hB⟩ := hrel
    by_cases hlt : k < l.length
    · obtain ⟨o, hx⟩ := get_some _ _ hlt
      obtain ⟨b, off, cap2, u, hv, hb, hn, c1, hu⟩ := Hl.out.at hB hx
      cases hv
      obtain ⟨ao2, co2, rfl, hlo2⟩ := hu.slice
      have HS := Lib.hid (take_succ_some _ _ _ hx)
      have Hx := Lib.hid (List.mem_of_getElem? hx)
      clear hx hu
      by_cases h4 : 4 < o.length
      · have h5 := Lib.hid h4
        go_wp2_with fail
        refine (large_any _ _ _ _).mono ?_
        rintro e w1 ⟨rfl, hb1⟩
        go_wp2
        go_ret
        exact ⟨⟨k, rfl, ⟨fun _ => ⟨o, Hx.out, h5.out⟩, fun _ => by omega⟩⟩, hB.trans (hb1.mono hB.size)⟩
      · have h5 : ¬ 4 < o.length := h4
        have hd : decide (4 < o.length) = false := by simpa using h4
        go_wp2_with fail
        refine (large_any _ _ _ _).mono ?_
        rintro e w1 ⟨rfl, hb1⟩
        go_wp2
        go_roundw
        case rel => exact ⟨k + 1, by omega, by go_num, hN.succ HS.out hd, hB.trans (hb1.mono hB.size)⟩
        case measure => simp [intOf]; omega
    · obtain rfl : k = l.length := by omega
      have hno : ¬ ∃ o ∈ l, 4 < o.length := fun ⟨o, ho, h4⟩ => by have := hN.all o ho; simp at this; omega
      have Hno := Lib.hid hno
      clear hno
      go_wp2
      go_ret
      exact ⟨⟨-1, rfl, ⟨fun h => by omega, fun h => (Hno.out h).elim⟩⟩, hB⟩

set_option maxHeartbeats 400000 in
theorem containsLarge_yes (v : Value) (l : List (List V)) (w : World) (hl : IsObjs w v l) (h : ∃ o ∈ l, 4 < o.length) :
    Calls Try.prog 53 #[v, .func (.func 52) #[] #[]] w fun e w' => e = .returned (.bool true) ∧ Below w.heap.size w w' := by
  have H := Lib.hid h
  have Hl := Lib.hid hl
  clear h hl
  go_enter Try.func53, Try.ntmps53
  go_wp2_with fail
  refine (indexLarge_any _ _ _ Hl.out).mono ?_
  rintro e w1 ⟨⟨i, rfl, hi⟩, hb⟩
  have h0 := hi.2 H.out
  clear hi
  go_wp2
  go_ret
  exact ⟨by simp <;> omega, hb⟩
set_option maxHeartbeats 400000 in
theorem containsLarge_no (v : Value) (l : List (List V)) (w : World) (hl : IsObjs w v l) (h : ¬ ∃ o ∈ l, 4 < o.length) :
    Calls Try.prog 53 #[v, .func (.func 52) #[] #[]] w fun e w' => e = .returned (.bool false) ∧ Below w.heap.size w w' := by
  have H := Lib.hid h
  have Hl := Lib.hid hl
  clear h hl
  go_enter Try.func53, Try.ntmps53
  go_wp2_with fail
  refine (indexLarge_any _ _ _ Hl.out).mono ?_
  rintro e w1 ⟨⟨i, rfl, hi⟩, hb⟩
  have h0 : ¬ 0 ≤ i := fun h => H.out (hi.1 h)
  clear hi
  go_wp2
  go_ret
  exact ⟨by simp <;> omega, hb⟩

theorem values_any (n : Nat) (vo vr : Value) (w : World) :
    CallsIn Fence.wide n Try.prog 54 #[.agg #[vo, vr]] w fun e w' => e = .returned (.func (.func 76) #[] #[.pointer (some ⟨w.heap.size, 0, none⟩)]) ∧ w.alloc (.cells #[vo, vr] 25) = w' := by
  refine callsIn_of_wp Try.func54 rfl trivial ?_ rfl
  simp only [Try.ntmps54, List.size_toArray, List.length_cons, List.length_nil, Nat.reduceAdd, Nat.reduceSub, Array.replicate_succ, Array.replicate_zero, List.push_toArray, List.append_toArray, List.nil_append, List.cons_append]
  gi_wp2
  go_ret
  exact ⟨rfl, rfl⟩

/-- The contract of the iterator: it reads what lay below its own box, and the box. -/
theorem values_stops (n : Nat) (hn : 1 ≤ n) (g : G) (vo vr : Value) (w0 : World) (ho : IsObjs w0 vo g.objs) (hr : IsVals w0 vr g.roots) :
    SeqStopsK Fence.wide n Try.prog 76 #[.pointer (some ⟨w0.heap.size, 0, none⟩)] (fun x : Vg g => #[.agg #[.bool x.1.ref, .int .i64 x.1.n]]) (Below (w0.heap.size + 1))
      (fun ys => ys.map (·.1) = allV g) (fun pre => pre.map (·.1) <+: allV g) ((allV g).length + 1) (w0.alloc (.cells #[vo, vr] 25)) := fun lp J Jx W hW hJ hJx hY h0 => by
  have hW0 : Below w0.heap.size w0 W := ((Below.refl _ w0).alloc (Nat.le_refl _) _).trans (hW.mono (by simp))
  have hlt : w0.heap.size < (w0.alloc (.cells #[vo, vr] 25)).heap.size := by simp
  exact values1_in n hn lp _ g vo vr w0 ho hr J Jx W hJ hY hW0 (Nat.lt_of_lt_of_le hlt hW.size) rfl
    ((hW.cell (p := ⟨_, 0, none⟩) hlt).trans (by simp)) ((hW.cell (p := ⟨_, 1, none⟩) hlt).trans (by simp)) h0
end Go.Proofs.Ytjnbnfmlpdnngaa

/- Ranges over functions and what is owned: the marks at a function's return; invariants that abide the loop's book-keeping. -/
namespace Go.Proofs.Ytjnbnfmlpdnngaa
open Go.RowKit Go.Shelf

/-- The block for the rounds' deferred calls. -/
def edef (D : Nat) : Ent := eown D (fun o => o = .deferred (some []))
def Ent.Cells (x : Ent) : Prop := ∀ o, x.at_ (some o) → o.isCells = true
theorem ebox_cells (b : Nat) (c : Array Value) (t : TypeId) : (ebox b c t).Cells := by
  intro o h; simp only [ebox, Option.some.injEq] at h; subst h; rfl

theorem erow_cells (e : TypeId) (sz : Nat) (v : Value) (n : Nat) (xs : List Value) {B : Nat} {w : World} (h : (erow e sz v n xs).ok B w) : ∀ b, (erow e sz v n xs).blk = some b → ∃ o : Obj, w.heap[b]? = some o ∧ o.isCells = true := by
  intro b hb
  have h2 := h.2
  rw [hb] at h2
  obtain ⟨_, h3 | ⟨g, cap, cur, rfl, ho, _⟩⟩ := h2
  · obtain ⟨rfl, _⟩ := h3; simp [erow, Value.ownBlock] at hb
  · exact ⟨_, ho, rfl⟩

/-- Its block is one of cells, or lies below. -/
def Ent.Calm (B : Nat) (x : Ent) : Prop := ∀ (w : World) (B0 : Nat), x.ok B0 w → ∀ b, x.blk = some b → b < B ∨ ∃ o : Obj, w.heap[b]? = some o ∧ o.isCells = true
theorem ebox_calm (B b : Nat) (c : Array Value) (t : TypeId) : (ebox b c t).Calm B := by
  intro w B0 h b' hb
  cases hb
  exact .inr ⟨_, h.2, rfl⟩
theorem erow_calm (B : Nat) (e : TypeId) (sz : Nat) (v : Value) (n : Nat) (xs : List Value) : (erow e sz v n xs).Calm B :=
  fun _ _ h b hb => .inr (erow_cells e sz v n xs h b hb)
theorem rowV_calm (B : Nat) (e : TypeId) (v : Value) (l : List V) : (rowV e v l).Calm B := erow_calm B e 2 v _ _
theorem rowI_calm (B : Nat) (e : TypeId) (v : Value) (l : List Int) : (rowI e v l).Calm B := erow_calm B e 1 v _ _
theorem low_calm {B b : Nat} {p : Obj → Prop} (h : b < B) : (eown b p).Calm B := by
  intro _ _ _ b' hb
  cases hb
  exact .inl h

theorem edef_calm {B D : Nat} (h : D < B) : (edef D).Calm B := low_calm h
theorem calm_nil (B : Nat) : ∀ x ∈ ([] : List Ent), x.Calm B := by intro x hx; cases hx
theorem calm_cons {B : Nat} {x : Ent} {L : List Ent} (h : x.Calm B) (ht : ∀ y ∈ L, y.Calm B) : ∀ y ∈ x :: L, y.Calm B := by
  intro y hy; rcases List.mem_cons.1 hy with rfl | hy
  · exact h
  · exact ht y hy
theorem ownFrom_mem {β : Type} {B0 B : Nat} {w0 : World} (L : β → List Ent) (hB : B0 ≤ B) (hL : ∀ s, ∀ x ∈ L s, x.Calm B) : OwnFrom B (fun s W => Mem B0 w0 W (L s)) := by
  intro s W W' _ hs hg hr
  refine hs.same ((Below.refl B0 W).grown hg hs.base (fun k e => Nat.le_trans hB (hr k e).1)) ?_
  intro x hx b hb
  have hlt := (hs.lt hx b hb).2
  refine hg.block b hlt ?_
  intro e
  obtain ⟨h1, o, h2, h3⟩ := hr b e.symm
  rcases hL s x hx W B0 (hs.ok x hx) b hb with h4 | ⟨o2, h5, h6⟩
  · omega
  · rw [h2] at h5; cases h5; rw [h3] at h6; cases h6
theorem ownFrom_ex {β ι : Type} {B : Nat} {I : ι → β → World → Prop} (h : ∀ i, OwnFrom B (I i)) : OwnFrom B (fun s W => ∃ i, I i s W) :=
  fun s W W' row ⟨i, hs⟩ hg hr => ⟨i, h i s W W' row hs hg hr⟩
theorem ownFrom_false {β : Type} (B : Nat) : OwnFrom B (fun (_ : β) (_ : World) => False) := fun _ _ _ _ h _ _ => h

theorem keepsFrom_below {B : Nat} {W W' : World} (h : Below W.heap.size W W') : KeepsFrom B W W' :=
  ⟨h.size, fun k _o _ hk _ => (h.block k (Array.getElem?_eq_some_iff.1 hk).1).trans hk⟩
theorem keepsFrom_row {B : Nat} {W W' : World} {v : Value} {B0 : Nat} {e : TypeId} {sz n : Nat} {xs : List Value} (hown : W.ownsRow B0 e sz v n xs) (hs : W.heap.size ≤ W'.heap.size)
    (h : ∀ b, b < W.heap.size → v.ownBlock ≠ some b → W'.heap[b]? = W.heap[b]?) : KeepsFrom B W W' := by
  refine ⟨hs, fun k o _ hk ho => ?_⟩
  refine (h k (Array.getElem?_eq_some_iff.1 hk).1 ?_).trans hk
  intro e'
  rcases hown.2 with ⟨rfl, _⟩ | ⟨g, cap, cur, rfl, _, hg, _⟩
  · simp [Value.ownBlock] at e'
  · simp [Value.ownBlock] at e'; subst e'; rw [hk] at hg; cases hg; cases ho

theorem Mem.putDef {B : Nat} {w0 W : World} {L : List Ent} {D : Nat} (h : Mem B w0 W (edef D :: L)) (o : Obj) : Mem B w0 (W.putObj D o) L := by
  have hD := h.lt (List.mem_cons_self ..) D rfl
  have ha := h.apart
  rw [List.pairwise_cons] at ha
  refine (h.drop (List.sublist_cons_self _ _)).same ?_ ?_
  · exact ⟨rfl, rfl, rfl, by simp [World.putObj], fun k hk => World.putObj_heap_other (by omega)⟩
  · intro x hx b hb
    refine World.putObj_heap_other ?_
    rintro rfl
    exact ha.1 x hx b rfl hb

/-- At the function's return the marks are taken. -/
theorem leaves_marks {F : Fence} {n : Nat} {P : Program} {fn : Func} {tmps : Array Value} {R : Ending → World → Prop} {B : Nat} {w0 : World} {L : List Ent} {v : Value} :
    ∀ (Ds : List Nat) (W : World), Mem B w0 W (Ds.map edef ++ L) → (∀ W', Mem B w0 W' L → (results fn tmps).run P W' = .ok v W' ∧ R (.returned v) W') →
      LeavesInM F n P fn tmps R (Ds.map fun D => { target := .collected D, args := #[] }) .returning W
  | [], W, h, fin => ⟨v, (fin W h).1, (fin W h).2⟩
  | D :: Ds, W, h, fin => by
    have hD : W.heap[D]? = some (.deferred (some [])) := by
      obtain ⟨_, x, hx, rfl⟩ := h.ok (edef D) (by simp)
      exact hx
    exact ⟨by simp, .inl ⟨D, _, rfl, run_takeDeferred hD, leaves_marks Ds _ (h.putDef _) fin⟩⟩

/-- A mark that the loop's law hands over is owned. -/
theorem Mem.addDef {B : Nat} {w0 W : World} {L : List Ent} (h : Mem B w0 W L) {D : Nat} (hB : B ≤ D) (hD : W.heap[D]? = some (.deferred (some []))) (ha : ∀ x ∈ L, x.blk ≠ some D) : Mem B w0 W (edef D :: L) :=
  h.cons _ ⟨fun b e => by cases e; exact ⟨hB, (Array.getElem?_eq_some_iff.1 hD).1⟩, ⟨_, hD, rfl⟩⟩ (fun y hy b e => by cases e; exact ha y hy)
/-- .. from its being no block of cells. -/
theorem Mem.addDef' {B : Nat} {w0 W : World} {L : List Ent} (h : Mem B w0 W L) {D : Nat} (hB : B ≤ D) (hD : W.heap[D]? = some (.deferred (some []))) (ha : ∀ x ∈ L, x.Calm D) : Mem B w0 W (edef D :: L) := by
  refine h.addDef hB hD ?_
  intro x hx e
  rcases ha x hx W B (h.ok x hx) D e with h1 | ⟨o, h1, h2⟩
  · omega
  · rw [hD] at h1; cases h1; cases h2

theorem ownFrom_size {β : Type} (B k : Nat) : OwnFrom B (fun (_ : β) W => k ≤ W.heap.size) := fun _ _ _ _ hs hg _ => Nat.le_trans hs hg.size
/-- The frame with a round's values laid in. -/
@[reducible] def laid (a : Act) (p : Tmp) (v : Value) : Array Value := a.tmps.setIfInBounds p v

theorem foldl_one (f : Array Value → Nat × Value → Array Value) (t : Array Value) (p : Nat) (v : Value) : Array.foldl f t (#[p].zip #[v]) = f t (p, v) := by
  simp
/-- A range over a function whose loop variable is boxed in every round. -/
theorem range_box {P : Program} {n : Nat} {α : Type} {g : Operand} {p : Tmp} {assign body : Code} {Q : Exit → Act → World → Prop} {a : Act} {w : World}
    (h1 : 1 ≤ n) {gf : Nat} {lb : Array Value} (hg : a.eval g = .func (.func gf) #[] lb) (eg : ∀ args w, (callFunc gf args).run P w = .ok (.enter gf args) w)
    {enc : α → Value} {n₀ : Nat} {S Sp : List α → Prop} {N : Nat} (hseq : SeqStopsK Fence.wide (n - 1) P gf lb (fun x => #[enc x]) (Below n₀) S Sp N w) (hn : n₀ ≤ w.heap.size)
    (I : List α → World → Prop) (Ix : Code → List α → World → Prop) (hI : OwnFrom w.heap.size I) (hIx : ∀ c, OwnFrom w.heap.size (Ix c)) (h0 : I [] w) (slot : Nat) (T : TypeId) (cs : α → Array Value)
    (hassign : ∀ (l : Nat) (x : α) (W : World) (K : Act → World → Prop), K { tmps := (laid a p (enc x)).setIfInBounds slot (.pointer (some ⟨W.heap.size, 0, none⟩)), defers := [] } (W.alloc (.cells (cs x) T)) →
      assign.wpIn (Fence.wide.inRound l) (n - 1 - 1) P (Exit.then K (fun _ _ _ => False)) { tmps := laid a p (enc x), defers := [] } W)
    (hbody : ∀ (l : Nat) (pre : List α) (x : α) (W : World) (Bx : Nat), w.heap.size ≤ Bx → Bx < W.heap.size → W.heap[Bx]? = some (.cells (cs x) T (0, 0)) → w.heap.size ≤ W.heap.size → I pre W → pre.length < N →
      body.wpIn (Fence.wide.inRound l) (n - 1 - 1) P (ownPostG w.heap.size (Below n₀) I Ix (pre ++ [x]) W) { tmps := (laid a p (enc x)).setIfInBounds slot (.pointer (some ⟨Bx, 0, none⟩)), defers := [] } W)
    (hdone : ∀ (D : Nat) (xs : List α) (W : World), w.heap.size ≤ D → S xs → I xs W → W.heap[D]? = some (.deferred (some [])) → Q .normal { a with defers := { target := .collected D, args := #[] } :: a.defers } W)
    (hstop : ∀ (D : Nat) (c : Code) (pre : List α) (W : World), w.heap.size ≤ D → Sp pre → Ix c pre W → W.heap[D]? = some (.deferred (some [])) → c.wpIn Fence.wide n P Q { a with defers := { target := .collected D, args := #[] } :: a.defers } W) :
    (Code.rangeFunc g #[p] assign body).wpIn Fence.wide n P Q a w := by
  refine wpIn_rangeFunc_ownH (F := Fence.wide) rfl h1 hg trivial eg hseq belowK_t (belowK_b hn) (Below.refl _ _) (fun _ => rfl) (fun pre W => I pre W ∧ w.heap.size ≤ W.heap.size) Ix (hI.and (ownFrom_size _ _)) hIx ⟨h0, Nat.le_refl _⟩
    (fun x a' W => ∃ Bx, w.heap.size ≤ Bx ∧ W.heap[Bx]? = some (.cells (cs x) T (0, 0)) ∧ a' = { tmps := (laid a p (enc x)).setIfInBounds slot (.pointer (some ⟨Bx, 0, none⟩)), defers := [] })
    ?_ ?_ ?_ (fun D xs W hD hS hi => hdone D xs W hD hS hi.1) hstop
  · rintro x a' s W W' row ⟨Bx, hB, hc, ha⟩ hg' hr
    refine ⟨Bx, hB, (hg'.block Bx (Array.getElem?_eq_some_iff.1 hc).1 ?_).trans hc, ha⟩
    intro e
    obtain ⟨_, o, h2, h3⟩ := hr Bx e.symm
    rw [hc] at h2; cases h2; cases h3
  · intro l pre x W K ⟨hi, hz⟩ hK
    rw [foldl_one]
    exact hassign l x W K (hK _ _ ((KeepsOthers.alloc _ _).from _) ((Below.refl n₀ W).alloc (Nat.le_trans hn hz) _) ⟨hI.alloc _ hi, by simp; omega⟩ ⟨W.heap.size, hz, heap_alloc_new W _, rfl⟩)
  · rintro l pre x a' W hl ⟨r, hr⟩ ⟨hi, hz⟩ ⟨Bx, hB, hc, rfl⟩ hlen
    refine wpIn_mono (hbody l pre x W Bx hB (Array.getElem?_eq_some_iff.1 hc).1 hc hz hi hlen) ?_
    intro e a3 W3 hp
    cases e with
    | normal => exact ⟨hp.1, hp.2.1, hp.2.2, Nat.le_trans hz hp.1.size⟩
    | _ => exact hp

/-- A range over a function whose loop variable lies in a slot. -/
theorem range_slot {P : Program} {n : Nat} {α : Type} {g : Operand} {p : Tmp} {assign body : Code} {Q : Exit → Act → World → Prop} {a : Act} {w : World}
    (h1 : 1 ≤ n) {gf : Nat} {lb : Array Value} (hg : a.eval g = .func (.func gf) #[] lb) (eg : ∀ args w, (callFunc gf args).run P w = .ok (.enter gf args) w)
    {enc : α → Value} {n₀ : Nat} {S Sp : List α → Prop} {N : Nat} (hseq : SeqStopsK Fence.wide (n - 1) P gf lb (fun x => #[enc x]) (Below n₀) S Sp N w) (hn : n₀ ≤ w.heap.size)
    (I : List α → World → Prop) (Ix : Code → List α → World → Prop) (hI : OwnFrom w.heap.size I) (hIx : ∀ c, OwnFrom w.heap.size (Ix c)) (h0 : I [] w) (slot : Nat) (enc2 : α → Value)
    (hassign : ∀ (l : Nat) (x : α) (W : World) (K : Act → World → Prop), K { tmps := (laid a p (enc x)).setIfInBounds slot (enc2 x), defers := [] } W →
      assign.wpIn (Fence.wide.inRound l) (n - 1 - 1) P (Exit.then K (fun _ _ _ => False)) { tmps := laid a p (enc x), defers := [] } W)
    (hbody : ∀ (l : Nat) (pre : List α) (x : α) (W : World), w.heap.size ≤ W.heap.size → I pre W → pre.length < N →
      body.wpIn (Fence.wide.inRound l) (n - 1 - 1) P (ownPostG w.heap.size (Below n₀) I Ix (pre ++ [x]) W) { tmps := (laid a p (enc x)).setIfInBounds slot (enc2 x), defers := [] } W)
    (hdone : ∀ (D : Nat) (xs : List α) (W : World), w.heap.size ≤ D → S xs → I xs W → W.heap[D]? = some (.deferred (some [])) → Q .normal { a with defers := { target := .collected D, args := #[] } :: a.defers } W)
    (hstop : ∀ (D : Nat) (c : Code) (pre : List α) (W : World), w.heap.size ≤ D → Sp pre → Ix c pre W → W.heap[D]? = some (.deferred (some [])) → c.wpIn Fence.wide n P Q { a with defers := { target := .collected D, args := #[] } :: a.defers } W) :
    (Code.rangeFunc g #[p] assign body).wpIn Fence.wide n P Q a w := by
  refine wpIn_rangeFunc_ownH (F := Fence.wide) rfl h1 hg trivial eg hseq belowK_t (belowK_b hn) (Below.refl _ _) (fun _ => rfl) (fun pre W => I pre W ∧ w.heap.size ≤ W.heap.size) Ix (hI.and (ownFrom_size _ _)) hIx ⟨h0, Nat.le_refl _⟩
    (fun x a' _ => a' = { tmps := (laid a p (enc x)).setIfInBounds slot (enc2 x), defers := [] })
    (fun x a' s W W' row ha _ _ => ha) ?_ ?_ (fun D xs W hD hS hi => hdone D xs W hD hS hi.1) hstop
  · intro l pre x W K hi hK
    rw [foldl_one]
    exact hassign l x W K (hK _ _ (KeepsFrom.refl _ _) (Below.refl _ _) hi rfl)
  · rintro l pre x a' W hl ⟨r, hr⟩ ⟨hi, hz⟩ rfl hlen
    refine wpIn_mono (hbody l pre x W hz hi hlen) ?_
    intro e a3 W3 hp
    cases e with
    | normal => exact ⟨hp.1, hp.2.1, hp.2.2, Nat.le_trans hz hp.1.size⟩
    | _ => exact hp
end Go.Proofs.Ytjnbnfmlpdnngaa

/- graph.Check: its code is OK just where the graph may be. -/
namespace Go.Proofs.Ytjnbnfmlpdnngaa
open Go.RowKit Go.Shelf

attribute [local go_sem] Oper.semAt_some

def RefsOk {g : G} (n : Int) (pre : List (Vg g)) : Prop := ∀ x ∈ pre, badC x.1 n ≠ 2
theorem undef_ne {b : Bool} (h : some undef = some (Value.bool b)) : False := by simp [undef] at h
def IntsOk {g : G} (n : Int) (pre : List (Vg g)) : Prop := ∀ x ∈ pre, badC x.1 n ≠ 3
theorem IntsOk.snoc {g : G} {n : Int} {pre : List (Vg g)} {x : Vg g} (h : IntsOk n pre) (hx : badC x.1 n ≠ 3) : IntsOk n (pre ++ [x]) := by
  intro y hy; rcases List.mem_append.1 hy with h1 | h1
  · exact h y h1
  · simp at h1; subst h1; exact hx
theorem good_of {g : G} (h1 : g.objs.length ≤ 24) (h2 : g.roots.length ≤ 8) (h3 : ∀ o ∈ g.objs, o.length ≤ 4) {xs ys : List (Vg g)} (hx : xs.map (·.1) = allV g) (hy : ys.map (·.1) = allV g)
    (hr : RefsOk g.objs.length xs) (hi : IntsOk g.objs.length ys) : Good g := by
  refine ⟨h1, h2, h3, fun v hv => ?_⟩
  have hv1 : v ∈ xs.map (·.1) := by rw [hx]; exact hv
  have hv2 : v ∈ ys.map (·.1) := by rw [hy]; exact hv
  obtain ⟨x, hxm, rfl⟩ := List.mem_map.1 hv1
  obtain ⟨y, hym, he⟩ := List.mem_map.1 hv2
  have a := hr x hxm
  have b := hi y hym
  rw [he] at b
  rcases badC_cases x.1 g.objs.length with h | h | h
  · exact h
  · exact (a h).elim
  · exact (b h).elim
theorem RefsOk.snoc {g : G} {n : Int} {pre : List (Vg g)} {x : Vg g} (h : RefsOk n pre) (hx : badC x.1 n ≠ 2) : RefsOk n (pre ++ [x]) := by
  intro y hy; rcases List.mem_append.1 hy with h1 | h1
  · exact h y h1
  · simp at h1; subst h1; exact hx
set_option maxRecDepth 100000 in
set_option maxHeartbeats 4000000 in
theorem gcheck_main (g : G) (vo vr : Value) (w : World) (ho : IsObjs w vo g.objs) (hr : IsVals w vr g.roots) (h1 : g.objs.length ≤ 24) (h2 : g.roots.length ≤ 8) (h3 : ∀ o ∈ g.objs, o.length ≤ 4) :
    CallsIn Fence.wide 10 Try.prog 31 #[.agg #[vo, vr]] w fun e w' => Checked g e ∧ Below w.heap.size w w' := by
  obtain ⟨ao, co, rfl, hlo⟩ := ho.slice
  obtain ⟨ar, cr, rfl, hlr⟩ := hr.slice
  have Ho := Lib.hid ho
  have Hr := Lib.hid hr
  have hno : ¬ ∃ o ∈ g.objs, 4 < o.length := fun ⟨o, ho, h⟩ => by have := h3 o ho; omega
  have Hno := Lib.hid hno
  clear ho hr hno
  refine callsIn_of_wp_marks Try.func31 rfl trivial ?_ rfl
  simp only [Try.ntmps31, List.size_toArray, List.length_cons, List.length_nil, Nat.reduceAdd, Nat.reduceSub, Array.replicate_succ, Array.replicate_zero, List.push_toArray, List.append_toArray, List.nil_append, List.cons_append]
  have hM0 := ((Mem.start w).alloc #[.slice ao g.objs.length co, .slice ar g.roots.length cr] 25).allocAt (w.heap.size + 1) (by simp) #[.int .i64 0] 32
  gi_wp2_with fail
  refine ⟨trivial, (callsIn_wide.2 (containsLarge_no _ _ _ (Ho.out.later (by repeat (first | exact Below.refl _ _ | refine Below.setCell ?_ (by first | exact Nat.le_refl _ | (simp; done) | (simp; omega) | (simp at *; omega)) _ | refine Below.alloc ?_ (by first | exact Nat.le_refl _ | (simp; done) | (simp; omega) | (simp at *; omega)) _ | refine Below.drew ?_ | refine Below.trans ?_ (Below.mono (by assumption) (by first | exact Nat.le_refl _ | (simp; done) | (simp; omega) | (simp at *; omega)))))) Hno.out)).mono ?_⟩
  rintro e w1 ⟨rfl, hb⟩
  have hM1 := hM0.call hb
  have p0 : w1.cell? ⟨w.heap.size, 0, none⟩ = some (.slice ao g.objs.length co) := by have := hM1.cell 1 rfl 0; simpa using this
  have p1 : w1.cell? ⟨w.heap.size, 1, none⟩ = some (.slice ar g.roots.length cr) := by have := hM1.cell 1 rfl 1; simpa using this
  gi_wp2_with fail
  refine ⟨trivial, (values_any _ _ _ _).mono ?_⟩
  rintro e w2 ⟨rfl, rfl⟩
  gi_wp2
  have hsz1 : w.heap.size + 1 < w1.heap.size := (hM1.box 0 rfl).2.1
  refine range_box (by omega) (gf := 76) (lb := #[.pointer (some ⟨w1.heap.size, 0, none⟩)]) rfl (enters_of Try.func76 (by kernel_rfl) rfl)
    (values_stops _ (by omega) g _ _ w1 (Ho.out.later hM1.below) (Hr.out.later hM1.below)) (by simp)
    (fun pre W => Mem w.heap.size w W [ebox (w.heap.size + 1) #[.int .i64 0] 32, ebox w.heap.size #[.slice ao g.objs.length co, .slice ar g.roots.length cr] 25] ∧ RefsOk g.objs.length pre)
    (fun c _ W => Mem w.heap.size w W [ebox (w.heap.size + 1) #[.int .i64 2] 32, ebox w.heap.size #[.slice ao g.objs.length co, .slice ar g.roots.length cr] 25] ∧ (c = .ret ∧ ¬ Good g))
    ((ownFrom_mem _ (by simp; omega) (by intro _; repeat (first | exact calm_nil _ | refine calm_cons ?_ ?_ | exact ebox_calm _ _ _ _ | exact rowV_calm _ _ _ _ | exact rowI_calm _ _ _ _ | exact erow_calm _ _ _ _ _ _ | exact edef_calm (by first | exact Nat.le_refl _ | (simp; done) | (simp; omega) | (simp at *; omega)) | exact low_calm (by first | exact Nat.le_refl _ | (simp; done) | (simp; omega) | (simp at *; omega))))).and (ownFrom_pure _ _))
    (fun c => (ownFrom_mem (fun _ => _) (by simp; omega) (by intro _; repeat (first | exact calm_nil _ | refine calm_cons ?_ ?_ | exact ebox_calm _ _ _ _ | exact rowV_calm _ _ _ _ | exact rowI_calm _ _ _ _ | exact erow_calm _ _ _ _ _ _ | exact edef_calm (by first | exact Nat.le_refl _ | (simp; done) | (simp; omega) | (simp at *; omega)) | exact low_calm (by first | exact Nat.le_refl _ | (simp; done) | (simp; omega) | (simp at *; omega))))).and (ownFrom_pure _ _))
    ⟨hM1.alloc_ _, by intro x hx; simp at hx⟩ 4 84 (fun x => #[.bool x.1.ref, .int .i64 x.1.n]) ?assign ?body ?done ?stop
  case assign =>
    intro l x W K hK
    simp only [laid]
    gi_wp2
    exact hK
  case body =>
    rintro l pre ⟨⟨r, m⟩, hmem⟩ W Bx hBx hlt hbx hsz ⟨hM, hok⟩ hlen
    have c0 : W.cell? ⟨Bx, 0, none⟩ = some (.bool r) := by simp [World.cell?, hbx]
    have c1 : W.cell? ⟨Bx, 1, none⟩ = some (.int .i64 m) := by simp [World.cell?, hbx]
    have p0 : W.cell? ⟨w.heap.size, 0, none⟩ = some (.slice ao g.objs.length co) := by have := hM.cell 1 rfl 0; simpa using this
    have p2 : W.cell? ⟨w.heap.size + 1, 0, none⟩ = some (.int .i64 0) := by have := hM.cell 0 rfl 0; simpa using this
    have p3 : W.frozen? ⟨w.heap.size + 1, 0, none⟩ = false := hM.free 0 rfl 0
    have Hok := Lib.hid hok
    have Hmem := Lib.hid hmem
    clear hok hbx
    simp only [laid]
    cases r
    · have HO := Lib.hid (Hok.out.snoc (x := ⟨⟨false, m⟩, hmem⟩) (by simp [badC]; omega))
      gi_wp2
      all_goals (first | exact ⟨KeepsFrom.refl _ _, Below.refl _ _, hM, HO.out⟩ | exact (undef_ne (by assumption)).elim)
    · by_cases hm : m < 0 ∨ (g.objs.length : Int) ≤ m
      · have hb2 : ¬ Good g := fun h => by have := h.vals _ hmem; simp [badC, hm] at this
        have Hb2 := Lib.hid hb2
        have hM2 := hM.setBox 0 rfl 0 (.int .i64 2)
        clear hb2
        rcases hm with hm | hm
        · gi_wp2
          exact ⟨(KeepsOthers.setCell _ _ _).from _, hM2, rfl, Hb2.out⟩
        · have hm0 : ¬ m < 0 := by omega
          gi_wp2
          exact ⟨(KeepsOthers.setCell _ _ _).from _, hM2, rfl, Hb2.out⟩
      · have HO := Lib.hid (Hok.out.snoc (x := ⟨⟨true, m⟩, hmem⟩) (by simp [badC, hm]))
        have hm1 : ¬ m < 0 := by omega
        have hm2 : ¬ (g.objs.length : Int) ≤ m := by omega
        clear hm
        gi_wp2
        exact ⟨KeepsFrom.refl _ _, Below.refl _ _, hM, HO.out⟩
  case stop =>
    rintro D c pre W hD hpre ⟨hM, rfl, hbad⟩ hK
    have hM2 := hM.addDef' (D := D) (by simp at hD; omega) hK (by repeat (first | exact calm_nil _ | refine calm_cons ?_ ?_ | exact ebox_calm _ _ _ _ | exact rowV_calm _ _ _ _ | exact rowI_calm _ _ _ _ | exact erow_calm _ _ _ _ _ _ | exact edef_calm (by first | exact Nat.le_refl _ | (simp; done) | (simp; omega) | (simp at *; omega)) | exact low_calm (by first | exact Nat.le_refl _ | (simp; done) | (simp; omega) | (simp at *; omega))))
    gi_wp2
    refine leaves_marks (v := .int .i64 2) [D] _ hM2 ?_
    intro W' hM3
    refine ⟨?_, ⟨2, rfl, ?_⟩, hM3.below⟩
    · have q0 : W'.cell? ⟨w.heap.size + 1, 0, none⟩ = some (.int .i64 2) := by have := hM3.cell 0 rfl 0; simpa using this
      simp [results, Try.results31, go_sem, q0]
    · simp [hbad]
  case done =>
    rintro D1 xs W hD1 hxs ⟨hM, hrok⟩ hK1
    have HR := Lib.hid hrok
    have HX := Lib.hid hxs
    have hM2 := hM.addDef' (D := D1) (by simp at hD1; omega) hK1 (by repeat (first | exact calm_nil _ | refine calm_cons ?_ ?_ | exact ebox_calm _ _ _ _ | exact rowV_calm _ _ _ _ | exact rowI_calm _ _ _ _ | exact erow_calm _ _ _ _ _ _ | exact edef_calm (by first | exact Nat.le_refl _ | (simp; done) | (simp; omega) | (simp at *; omega)) | exact low_calm (by first | exact Nat.le_refl _ | (simp; done) | (simp; omega) | (simp at *; omega))))
    have hD1W : D1 < W.heap.size := (hM2.lt (List.mem_cons_self ..) D1 rfl).2
    have p0 : W.cell? ⟨w.heap.size, 0, none⟩ = some (.slice ao g.objs.length co) := by have := hM2.cell 2 rfl 0; simpa using this
    have p1 : W.cell? ⟨w.heap.size, 1, none⟩ = some (.slice ar g.roots.length cr) := by have := hM2.cell 2 rfl 1; simpa using this
    have hszW : w.heap.size + 1 < W.heap.size := (hM2.box 1 rfl).2.1
    have hD1' : w.heap.size ≤ D1 := by simp at hD1; omega
    clear hrok hxs hD1
    gi_wp2_with fail
    refine ⟨trivial, (values_any _ _ _ _).mono ?_⟩
    rintro e w2 ⟨rfl, rfl⟩
    gi_wp2
    refine range_box (by omega) (gf := 76) (lb := #[.pointer (some ⟨W.heap.size, 0, none⟩)]) rfl (enters_of Try.func76 (by kernel_rfl) rfl)
      (values_stops _ (by omega) g _ _ W (Ho.out.later hM2.below) (Hr.out.later hM2.below)) (by simp)
      (fun pre W => Mem w.heap.size w W [edef D1, ebox (w.heap.size + 1) #[.int .i64 0] 32, ebox w.heap.size #[.slice ao g.objs.length co, .slice ar g.roots.length cr] 25] ∧ IntsOk g.objs.length pre)
      (fun c _ W => Mem w.heap.size w W [edef D1, ebox (w.heap.size + 1) #[.int .i64 3] 32, ebox w.heap.size #[.slice ao g.objs.length co, .slice ar g.roots.length cr] 25] ∧ (c = .ret ∧ ¬ Good g))
      ((ownFrom_mem _ (by simp; omega) (by intro _; repeat (first | exact calm_nil _ | refine calm_cons ?_ ?_ | exact ebox_calm _ _ _ _ | exact rowV_calm _ _ _ _ | exact rowI_calm _ _ _ _ | exact erow_calm _ _ _ _ _ _ | exact edef_calm (by first | exact Nat.le_refl _ | (simp; done) | (simp; omega) | (simp at *; omega)) | exact low_calm (by first | exact Nat.le_refl _ | (simp; done) | (simp; omega) | (simp at *; omega))))).and (ownFrom_pure _ _))
      (fun c => (ownFrom_mem (fun _ => _) (by simp; omega) (by intro _; repeat (first | exact calm_nil _ | refine calm_cons ?_ ?_ | exact ebox_calm _ _ _ _ | exact rowV_calm _ _ _ _ | exact rowI_calm _ _ _ _ | exact erow_calm _ _ _ _ _ _ | exact edef_calm (by first | exact Nat.le_refl _ | (simp; done) | (simp; omega) | (simp at *; omega)) | exact low_calm (by first | exact Nat.le_refl _ | (simp; done) | (simp; omega) | (simp at *; omega))))).and (ownFrom_pure _ _))
      ⟨hM2.alloc_ _, by intro x hx; simp at hx⟩ 5 84 (fun x => #[.bool x.1.ref, .int .i64 x.1.n]) ?assign2 ?body2 ?done2 ?stop2
    case assign2 =>
      intro l x W K hK
      simp only [laid]
      gi_wp2
      exact hK
    case body2 =>
      rintro l pre ⟨⟨r, m⟩, hmem⟩ W Bx hBx hlt hbx hsz ⟨hM, hok⟩ hlen
      have c0 : W.cell? ⟨Bx, 0, none⟩ = some (.bool r) := by simp [World.cell?, hbx]
      have c1 : W.cell? ⟨Bx, 1, none⟩ = some (.int .i64 m) := by simp [World.cell?, hbx]
      have p2 : W.cell? ⟨w.heap.size + 1, 0, none⟩ = some (.int .i64 0) := by have := hM.cell 1 rfl 0; simpa using this
      have p3 : W.frozen? ⟨w.heap.size + 1, 0, none⟩ = false := hM.free 1 rfl 0
      have Hok := Lib.hid hok
      clear hok hbx
      simp only [laid]
      cases r
      · by_cases hm : m < -4611686018427387904 ∨ 4611686018427387903 < m
        · have hb2 : ¬ Good g := fun h => by have := h.vals _ hmem; simp [badC, hm] at this
          have Hb2 := Lib.hid hb2
          have hM2 := hM.setBox 1 rfl 0 (.int .i64 3)
          clear hb2
          rcases hm with hm | hm
          · gi_wp2
            exact ⟨(KeepsOthers.setCell _ _ _).from _, hM2, rfl, Hb2.out⟩
          · have hm0 : ¬ m < -4611686018427387904 := by omega
            gi_wp2
            exact ⟨(KeepsOthers.setCell _ _ _).from _, hM2, rfl, Hb2.out⟩
        · have HO := Lib.hid (Hok.out.snoc (x := ⟨⟨false, m⟩, hmem⟩) (by simp [badC, hm]))
          have hm1 : ¬ m < -4611686018427387904 := by omega
          have hm2 : ¬ 4611686018427387903 < m := by omega
          clear hm
          gi_wp2
          exact ⟨KeepsFrom.refl _ _, Below.refl _ _, hM, HO.out⟩
      · have HO := Lib.hid (Hok.out.snoc (x := ⟨⟨true, m⟩, hmem⟩) (by simp [badC]; omega))
        gi_wp2
        all_goals (first | exact ⟨KeepsFrom.refl _ _, Below.refl _ _, hM, HO.out⟩ | exact (undef_ne (by assumption)).elim)
    case stop2 =>
      rintro D c pre W hD hpre ⟨hM, rfl, hbad⟩ hK
      have hM2 := hM.addDef' (D := D) (by simp at hD; omega) hK (by repeat (first | exact calm_nil _ | refine calm_cons ?_ ?_ | exact ebox_calm _ _ _ _ | exact rowV_calm _ _ _ _ | exact rowI_calm _ _ _ _ | exact erow_calm _ _ _ _ _ _ | exact edef_calm (by first | exact Nat.le_refl _ | (simp; done) | (simp; omega) | (simp at *; omega)) | exact low_calm (by first | exact Nat.le_refl _ | (simp; done) | (simp; omega) | (simp at *; omega))))
      gi_wp2
      refine leaves_marks (v := .int .i64 3) [D, D1] _ hM2 ?_
      intro W' hM3
      refine ⟨?_, ⟨3, rfl, ?_⟩, hM3.below⟩
      · have q0 : W'.cell? ⟨w.heap.size + 1, 0, none⟩ = some (.int .i64 3) := by have := hM3.cell 0 rfl 0; simpa using this
        simp [results, Try.results31, go_sem, q0]
      · simp [hbad]
    case done2 =>
      rintro D ys W hD hys ⟨hM, hiok⟩ hK
      have HI := Lib.hid hiok
      have HY := Lib.hid hys
      clear hiok hys
      have hM2 := hM.addDef' (D := D) (by simp at hD; omega) hK (by repeat (first | exact calm_nil _ | refine calm_cons ?_ ?_ | exact ebox_calm _ _ _ _ | exact rowV_calm _ _ _ _ | exact rowI_calm _ _ _ _ | exact erow_calm _ _ _ _ _ _ | exact edef_calm (by first | exact Nat.le_refl _ | (simp; done) | (simp; omega) | (simp at *; omega)) | exact low_calm (by first | exact Nat.le_refl _ | (simp; done) | (simp; omega) | (simp at *; omega))))
      have p2 : W.cell? ⟨w.heap.size + 1, 0, none⟩ = some (.int .i64 0) := by have := hM2.cell 2 rfl 0; simpa using this
      have p3 : W.frozen? ⟨w.heap.size + 1, 0, none⟩ = false := hM2.free 2 rfl 0
      have hM4 := hM2.setBox 2 rfl 0 (.int .i64 0)
      gi_wp2
      refine leaves_marks (v := .int .i64 0) [D, D1] _ hM4 ?_
      intro W' hM3
      refine ⟨?_, ⟨0, rfl, ?_⟩, hM3.below⟩
      · have q0 : W'.cell? ⟨w.heap.size + 1, 0, none⟩ = some (.int .i64 0) := by have := hM3.cell 0 rfl 0; simpa using this
        simp [results, Try.results31, go_sem, q0]
      · simp only [true_iff]; exact good_of h1 h2 h3 HX.out HY.out HR.out HI.out

set_option maxHeartbeats 400000 in
theorem gcheck_big (g : G) (vo vr : Value) (w : World) (ho : IsObjs w vo g.objs) (hr : IsVals w vr g.roots) (h : 24 < g.objs.length ∨ 8 < g.roots.length ∨ ∃ o ∈ g.objs, 4 < o.length) :
    Calls Try.prog 31 #[.agg #[vo, vr]] w fun e w' => Checked g e ∧ Below w.heap.size w w' := by
  obtain ⟨ao, co, rfl, hlo⟩ := ho.slice
  obtain ⟨ar, cr, rfl, hlr⟩ := hr.slice
  have Ho := Lib.hid ho
  have hbad : ¬ Good g := by
    intro hg
    rcases h with h | h | ⟨o, ho, h⟩
    · have := hg.objs; omega
    · have := hg.roots; omega
    · have := hg.fields o ho; omega
  have Hbad := Lib.hid hbad
  have H := Lib.hid h
  clear hbad ho hr h
  by_cases h2 : 24 < g.objs.length
  · go_enter Try.func31, Try.ntmps31
    go_wp2
    refine bodyPost_ret (v := .int .i64 1) (by simp [results, Try.results31, go_sem]) rfl ⟨⟨1, rfl, by simp [Hbad.out]⟩, ?_⟩
    exact (by repeat (first | exact Below.refl _ _ | refine Below.setCell ?_ (by first | exact Nat.le_refl _ | (simp; done) | (simp; omega) | (simp at *; omega)) _ | refine Below.alloc ?_ (by first | exact Nat.le_refl _ | (simp; done) | (simp; omega) | (simp at *; omega)) _ | refine Below.drew ?_ | refine Below.trans ?_ (Below.mono (by assumption) (by first | exact Nat.le_refl _ | (simp; done) | (simp; omega) | (simp at *; omega)))))
  · have h3 : g.objs.length ≤ 24 := by omega
    by_cases h4 : 8 < g.roots.length
    · clear h2
      go_enter Try.func31, Try.ntmps31
      go_wp2
      refine bodyPost_ret (v := .int .i64 1) (by simp [results, Try.results31, go_sem]) rfl ⟨⟨1, rfl, by simp [Hbad.out]⟩, ?_⟩
      exact (by repeat (first | exact Below.refl _ _ | refine Below.setCell ?_ (by first | exact Nat.le_refl _ | (simp; done) | (simp; omega) | (simp at *; omega)) _ | refine Below.alloc ?_ (by first | exact Nat.le_refl _ | (simp; done) | (simp; omega) | (simp at *; omega)) _ | refine Below.drew ?_ | refine Below.trans ?_ (Below.mono (by assumption) (by first | exact Nat.le_refl _ | (simp; done) | (simp; omega) | (simp at *; omega)))))
    · have h5 : g.roots.length ≤ 8 := by omega
      have h6 : ∃ o ∈ g.objs, 4 < o.length := by
        rcases H.out with h | h | h
        · omega
        · omega
        · exact h
      have H6 := Lib.hid h6
      clear h2 h4 h6
      go_enter Try.func31, Try.ntmps31
      go_wp2_with fail
      refine (containsLarge_yes _ _ _ (Ho.out.later (by repeat (first | exact Below.refl _ _ | refine Below.setCell ?_ (by first | exact Nat.le_refl _ | (simp; done) | (simp; omega) | (simp at *; omega)) _ | refine Below.alloc ?_ (by first | exact Nat.le_refl _ | (simp; done) | (simp; omega) | (simp at *; omega)) _ | refine Below.drew ?_ | refine Below.trans ?_ (Below.mono (by assumption) (by first | exact Nat.le_refl _ | (simp; done) | (simp; omega) | (simp at *; omega)))))) H6.out).mono ?_
      rintro e w1 ⟨rfl, hb⟩
      have q0 : w1.cell? ⟨w.heap.size + 1, 0, none⟩ = some (.int .i64 0) := by rw [hb.cell (p := ⟨_, _, none⟩) (by first | exact Nat.le_refl _ | (simp; done) | (simp; omega) | (simp at *; omega))]; go_simp
      have q1 : w1.frozen? ⟨w.heap.size + 1, 0, none⟩ = false := by rw [hb.frozen (p := ⟨_, _, none⟩) (by first | exact Nat.le_refl _ | (simp; done) | (simp; omega) | (simp at *; omega))]; go_simp
      go_wp2
      refine bodyPost_ret (v := .int .i64 1) (by simp [results, Try.results31, go_sem, q0]) rfl ⟨⟨1, rfl, by simp [Hbad.out]⟩, ?_⟩
      exact (by repeat (first | exact Below.refl _ _ | refine Below.setCell ?_ (by first | exact Nat.le_refl _ | (simp; done) | (simp; omega) | (simp at *; omega)) _ | refine Below.alloc ?_ (by first | exact Nat.le_refl _ | (simp; done) | (simp; omega) | (simp at *; omega)) _ | refine Below.drew ?_ | refine Below.trans ?_ (Below.mono (by assumption) (by first | exact Nat.le_refl _ | (simp; done) | (simp; omega) | (simp at *; omega)))))

/-- May a graph be? As graph.Check tells it. -/
theorem gcheck_any (v : Value) (g : G) (w : World) (hg : IsGraph w v g) :
    Calls Try.prog 31 #[v] w fun e w' => Checked g e ∧ Below w.heap.size w w' := by
  obtain ⟨vo, vr, rfl, ho, hr⟩ := hg
  by_cases h : 24 < g.objs.length ∨ 8 < g.roots.length ∨ ∃ o ∈ g.objs, 4 < o.length
  · exact gcheck_big g vo vr w ho hr h
  · refine callsIn_wide.1 (gcheck_main g vo vr w ho hr (by omega) (by omega) ?_)
    intro o ho
    have : ¬ 4 < o.length := fun h4 => h (.inr (.inr ⟨o, ho, h4⟩))
    omega
theorem gcheck_yes (v : Value) (g : G) (w : World) (hg : IsGraph w v g) (h : Good g) :
    Calls Try.prog 31 #[v] w fun e w' => e = .returned (.int .i64 0) ∧ Below w.heap.size w w' := by
  refine (gcheck_any v g w hg).mono ?_
  rintro e w' ⟨⟨c, rfl, hc⟩, hb⟩
  exact ⟨by rw [hc.2 h], hb⟩
theorem gcheck_no (v : Value) (g : G) (w : World) (hg : IsGraph w v g) (h : ¬ Good g) :
    Calls Try.prog 31 #[v] w fun e w' => (∃ c : Int, e = .returned (.int .i64 c) ∧ (c == 0) = false) ∧ Below w.heap.size w w' := by
  refine (gcheck_any v g w hg).mono ?_
  rintro e w' ⟨⟨c, rfl, hc⟩, hb⟩
  exact ⟨⟨c, rfl, by simp; intro e; exact h (hc.1 e)⟩, hb⟩

end Go.Proofs.Ytjnbnfmlpdnngaa

/- graph.Targets: its iterator's contract; a range over it. -/
namespace Go.Proofs.Ytjnbnfmlpdnngaa
open Go.RowKit Go.Shelf

attribute [local go_sem] Oper.semAt_some

set_option maxRecDepth 100000 in
set_option maxHeartbeats 2000000 in
theorem targets1_in (n : Nat) (hn : 1 ≤ n) (lp Bs : Nat) (L : List V) (vs : Value) (w0 : World) (hL : IsVals w0 vs L) (J Jx : List (Tg L) → World → Prop) (W0 : World)
    (hJ : AbidesFrom W0.heap.size J) (_hJx : AbidesFrom W0.heap.size Jx)
    (hY : ∀ pre x W, J pre W → pre.length < L.length + 1 → YieldAt Fence.wide (n - 1) Try.prog lp #[.int .i64 x.1] W fun e W' =>
      (e = .returned (.bool true) ∧ J (pre ++ [x]) W' ∧ Below w0.heap.size W W') ∨ (e = .returned (.bool false) ∧ Jx (pre ++ [x]) W'))
    (hW : Below w0.heap.size w0 W0) (hBs : W0.cell? ⟨Bs, 0, none⟩ = some vs) (h0 : J [] W0) :
    CallsIn Fence.wide n Try.prog 79 #[.func (.yield lp) #[] #[], .pointer (some ⟨Bs, 0, none⟩)] W0 fun e W' => (∃ v, e = .returned v) ∧
      ((∃ ys : List (Tg L), ys.map (·.1) = targets L ∧ J ys W') ∨ (∃ pre : List (Tg L), pre.map (·.1) <+: targets L ∧ Jx pre W')) := by
  obtain ⟨a, cap, rfl, hm⟩ := hL.slice
  have HL := Lib.hid hL
  clear hL
  refine callsIn_of_wp Try.func79 rfl trivial ?_ rfl
  simp only [Try.ntmps79, List.size_toArray, List.length_cons, List.length_nil, Nat.reduceAdd, Nat.reduceSub, Array.replicate_succ, Array.replicate_zero, List.push_toArray, List.append_toArray, List.nil_append, List.cons_append]
  gi_wp2
  gi_loopw [7] (fun i wr => ∃ (k : Nat) (pre : List (Tg L)), k ≤ L.length ∧ i = .int .i64 k ∧ pre.map (·.1) = targets (L.take k) ∧ J pre wr ∧ Below w0.heap.size w0 wr)
    (fun i _ => L.length - (intOf i).toNat)
  case atStart => exact ⟨0, [], Nat.zero_le _, rfl, rfl, h0, hW⟩
  case round =>
    obtain ⟨k, pre, hk, rfl, hpre, hJs, hB⟩ := hrel
    have Hpre := Lib.hid hpre
    clear hpre
    by_cases hlt : k < L.length
    · obtain ⟨x, hx⟩ := get_some _ _ hlt
      obtain ⟨b, off, cap2, hv, hb, hn2, c1, c2, _⟩ := HL.out.at hB hx
      cases hv
      have HS := Lib.hid (targets_succ (take_succ_some _ _ _ hx))
      have Hmem := Lib.hid (List.mem_of_getElem? hx)
      clear hx
      obtain ⟨r, m⟩ := x
      cases r
      · have hpre2 := Hpre.out.trans (by simpa using HS.out.symm)
        have Hp2 := Lib.hid hpre2
        have hJ2 := fun o => hJ pre wr (wr.alloc o) none hJs (World.grownBy_alloc wr o none) (fun r e => by cases e)
        clear hpre2
        gi_wp2
        refine ⟨fun _ h => (by cases h), ?_⟩
        gi_wp2
        go_roundw
        case rel => exact ⟨k + 1, pre, by omega, by go_num, Hp2.out, hJ2 _, hB.alloc (Nat.le_trans (Nat.le_refl _) hB.size) _⟩
        case measure => simp [intOf]; omega
      · obtain ⟨xx, hxx⟩ : ∃ xx : Tg L, xx.1 = m := ⟨⟨m, mem_targets Hmem.out rfl⟩, rfl⟩
        have Hxx := Lib.hid hxx
        have hJ2 := hJ pre wr (wr.alloc (.cells #[.bool true, .int .i64 m] 84)) none hJs (World.grownBy_alloc wr _ none) (fun r e => by cases e)
        have hlen : pre.length < L.length + 1 := by
          have h1 : pre.length = (targets (L.take k)).length := by rw [← Hpre.out, List.length_map]
          have h2 : (targets (L.take k)).length ≤ (L.take k).length := by unfold targets; rw [List.length_map]; exact List.length_filter_le _ _
          have h3 := take_len_le L k
          omega
        have hpre2 : (pre ++ [xx]).map (·.1) = targets (L.take (k + 1)) := by rw [List.map_append, Hpre.out, HS.out]; simp [hxx]
        have Hp2 := Lib.hid hpre2
        obtain ⟨fn, tmps, assign, body, hy, hR⟩ := hY pre xx _ hJ2 hlen
        rw [hxx] at hy
        clear hxx hpre2
        gi_wp2
        refine hR.mono ?_
        rintro e W3 (⟨rfl, hJ3, hk3⟩ | ⟨rfl, hJx3⟩)
        · gi_wp2
          go_roundw
          case rel => exact ⟨k + 1, _, by omega, by go_num, Hp2.out, hJ3, (hB.alloc hB.size _).trans hk3⟩
          case measure => simp [intOf]; omega
        · gi_wp2
          refine bodyPost_ret (results_none rfl _ _ _) rfl ?_
          exact ⟨⟨_, rfl⟩, .inr ⟨_, by rw [Hp2.out]; exact targets_prefix _ _, hJx3⟩⟩
    · obtain rfl : k = L.length := by omega
      have hall : pre.map (·.1) = targets L := by have := Hpre.out; rwa [List.take_length] at this
      have Hall := Lib.hid hall
      clear hall
      gi_wp2
      go_end0
      exact ⟨⟨_, rfl⟩, .inl ⟨_, Hall.out, hJs⟩⟩

/-- graph.Targets(l): the slice is boxed; the function value captures the box. -/
theorem targets_any (n : Nat) (a : Option Addr) (len cap : Nat) (w : World) :
    CallsIn Fence.wide n Try.prog 56 #[.slice a len cap] w fun e w' => e = .returned (.func (.func 79) #[] #[.pointer (some ⟨w.heap.size, 0, none⟩)]) ∧ w.alloc (.cells #[.slice a len cap] 23) = w' := by
  refine callsIn_of_wp Try.func56 rfl trivial ?_ rfl
  simp only [Try.ntmps56, List.size_toArray, List.length_cons, List.length_nil, Nat.reduceAdd, Nat.reduceSub, Array.replicate_succ, Array.replicate_zero, List.push_toArray, List.append_toArray, List.nil_append, List.cons_append]
  gi_wp2
  go_ret
  exact ⟨rfl, rfl⟩

/-- The contract of the iterator. -/
theorem targets_stops (n : Nat) (hn : 1 ≤ n) (Bs : Nat) (L : List V) (vs : Value) (w0 : World) (hL : IsVals w0 vs L) (w : World) (hw : Below w0.heap.size w0 w) (hlt : Bs < w.heap.size) (hBs : w.cell? ⟨Bs, 0, none⟩ = some vs) :
    SeqStopsK Fence.wide n Try.prog 79 #[.pointer (some ⟨Bs, 0, none⟩)] (fun x : Tg L => #[Value.int .i64 x.1]) (Below w0.heap.size)
      (fun ys => ys.map (·.1) = targets L) (fun pre => pre.map (·.1) <+: targets L) (L.length + 1) w := fun lp J Jx W hW hJ hJx hY h0 =>
  targets1_in n hn lp Bs L vs w0 hL J Jx W hJ hJx hY (hw.trans (hW.mono hw.size)) ((hW.cell (p := ⟨Bs, 0, none⟩) hlt).trans hBs) h0
end Go.Proofs.Ytjnbnfmlpdnngaa
