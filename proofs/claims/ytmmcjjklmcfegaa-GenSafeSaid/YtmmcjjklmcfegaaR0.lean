/- Counting, plainly: an object that nobody points at any more goes, and so does what it alone pointed at. -/
import Derived.Test.YtmmcjjklmcfegaaQ5
namespace Go.Proofs.Ytmmcjjklmcfegaa

def allO (os : Os) : List V := (os.map fun o => o.getD []).flatten
def cnt (l : List V) (j : Int) : Nat := (targets l).count j
def alive (os : Os) : Nat := os.countP (·.isSome)
theorem cnt_nil (j : Int) : cnt [] j = 0 := rfl
theorem cnt_cons (v : V) (l : List V) (j : Int) : cnt (v :: l) j = (if v.ref = true ∧ v.n = j then 1 else 0) + cnt l j := by
  unfold cnt targets
  cases hr : v.ref with
  | false => rw [List.filter_cons_of_neg (by simp [hr])]; simp
  | true =>
    rw [List.filter_cons_of_pos hr, List.map_cons, List.count_cons]
    by_cases e : v.n = j
    · simp only [e, beq_self_eq_true, if_true, and_self]; exact Nat.add_comm _ _
    · simp [e]
theorem cnt_append (a b : List V) (j : Int) : cnt (a ++ b) j = cnt a j + cnt b j := by
  unfold cnt targets
  rw [List.filter_append, List.map_append, List.count_append]
theorem cnt_pos {l : List V} {v : V} (h : v ∈ l) (hr : v.ref = true) : 0 < cnt l v.n := by
  unfold cnt
  exact List.count_pos_iff.2 (List.mem_map.2 ⟨v, List.mem_filter.2 ⟨h, hr⟩, rfl⟩)
theorem cnt_zero {l : List V} {j : Int} (h : cnt l j = 0) {v : V} (hv : v ∈ l) (hr : v.ref = true) : v.n ≠ j := by
  rintro rfl
  have := cnt_pos hv hr
  omega
theorem cnt_le (l : List V) (j : Int) : cnt l j ≤ l.length := by
  unfold cnt targets
  refine Nat.le_trans List.count_le_length ?_
  rw [List.length_map]; exact List.length_filter_le _ _
theorem cnt_set {l : List V} {r : Nat} {u : V} (h : l[r]? = some u) (v : V) (j : Int) : cnt (l.set r v) j + cnt [u] j = cnt l j + cnt [v] j := by
  induction l generalizing r with
  | nil => cases h
  | cons x l ih =>
    cases r with
    | zero =>
      have e : x = u := by simpa using h
      subst e
      rw [List.set_cons_zero, cnt_cons, cnt_cons x l, cnt_cons x [], cnt_cons v []]
      simp only [cnt_nil]; omega
    | succ r =>
      rw [List.getElem?_cons_succ] at h
      rw [List.set_cons_succ, cnt_cons, cnt_cons x l]
      have := ih h
      omega
theorem allO_set {os : Os} {i : Nat} {o : Option (List V)} (h : os[i]? = some o) (o' : Option (List V)) (j : Int) : cnt (allO (os.set i o')) j + cnt (o.getD []) j = cnt (allO os) j + cnt (o'.getD []) j := by
  unfold allO
  induction os generalizing i with
  | nil => cases h
  | cons x os ih =>
    cases i with
    | zero =>
      cases h
      simp only [List.set_cons_zero, List.map_cons, List.flatten_cons, cnt_append]; omega
    | succ i =>
      rw [List.getElem?_cons_succ] at h
      simp only [List.set_cons_succ, List.map_cons, List.flatten_cons, cnt_append]
      have := ih h
      omega
theorem alive_set {os : Os} {i : Nat} {l : List V} (h : os[i]? = some (some l)) : alive (os.set i none) + 1 = alive os := by
  unfold alive
  induction os generalizing i with
  | nil => cases h
  | cons x os ih =>
    cases i with
    | zero => cases h; simp
    | succ i =>
      rw [List.getElem?_cons_succ] at h
      have := ih h
      rw [List.set_cons_succ, List.countP_cons, List.countP_cons]
      omega
theorem alive_some {os : Os} {i : Nat} {l l' : List V} (h : os[i]? = some (some l)) : alive (os.set i (some l')) = alive os := by
  unfold alive
  induction os generalizing i with
  | nil => cases h
  | cons x os ih =>
    cases i with
    | zero => cases h; simp
    | succ i =>
      rw [List.getElem?_cons_succ] at h
      have := ih h
      rw [List.set_cons_succ, List.countP_cons, List.countP_cons]
      omega
theorem alive_le (os : Os) : alive os ≤ os.length := List.countP_le_length
theorem mem_allO {os : Os} {i : Nat} {l : List V} (h : os[i]? = some (some l)) {v : V} (hv : v ∈ l) : v ∈ allO os := by
  unfold allO
  exact List.mem_flatten.2 ⟨l, List.mem_map.2 ⟨some l, List.mem_of_getElem? h, rfl⟩, hv⟩

/-- Objects, counts, and what went. -/
structure Cst where
  os : Os
  cs : List Int
  gone : List Int
/-- Values lose one reference each, in order. -/
inductive Dn : List V → Cst → Cst → Prop
  | nil (s : Cst) : Dn [] s s
  | num {v : V} {p : List V} {s t : Cst} : v.ref = false → Dn p s t → Dn (v :: p) s t
  | dec {v : V} {p : List V} {s t : Cst} (k : Int) : v.ref = true → s.cs[v.n.toNat]? = some k → k ≠ 1 → Dn p ⟨s.os, s.cs.set v.n.toNat (k - 1), s.gone⟩ t → Dn (v :: p) s t
  | drop {v : V} {p : List V} {s t u : Cst} : v.ref = true → s.cs[v.n.toNat]? = some 1 → Dn (objAt s.os v.n) ⟨s.os.set v.n.toNat none, s.cs.set v.n.toNat 0, s.gone ++ [v.n]⟩ t → Dn p t u → Dn (v :: p) s u
theorem Dn.det {p : List V} {s t t' : Cst} (h : Dn p s t) (h' : Dn p s t') : t = t' := by
  induction h generalizing t' with
  | nil s => cases h'; rfl
  | num hr _ ih =>
    cases h' with
    | num _ h2 => exact ih h2
    | dec _ hr' => rw [hr] at hr'; cases hr'
    | drop hr' => rw [hr] at hr'; cases hr'
  | dec k hr hk hne _ ih =>
    cases h' with
    | num hr' => rw [hr] at hr'; cases hr'
    | dec k' _ hk' _ h2 => rw [hk] at hk'; cases hk'; exact ih h2
    | drop _ hk' => rw [hk] at hk'; cases hk'; exact absurd rfl hne
  | drop hr hk _ _ ih1 ih2 =>
    cases h' with
    | num hr' => rw [hr] at hr'; cases hr'
    | dec k' _ hk' hne => rw [hk] at hk'; cases hk'; exact absurd rfl hne
    | drop _ _ h1 h2 => cases ih1 h1; exact ih2 h2
theorem Dn.append {a b : List V} {s t u : Cst} (h : Dn a s t) (h2 : Dn b t u) : Dn (a ++ b) s u := by
  induction h with
  | nil s => exact h2
  | num hr _ ih => exact .num hr (ih h2)
  | dec k hr hk hne _ ih => exact .dec k hr hk hne (ih h2)
  | drop hr hk h1 _ _ ih2 => exact .drop hr hk h1 (ih2 h2)

/-- What is so while references of p are still to be taken off: rg are the registers'. -/
structure InvP (rg : List V) (s : Cst) (p : List V) : Prop where
  len : s.cs.length = s.os.length
  held : ∀ v ∈ rg ++ p, v.ref = true → Lives s.os v.n
  flds : ∀ (i : Nat) (l : List V), s.os[i]? = some (some l) → ∀ v ∈ l, v.ref = true → Lives s.os v.n
  count : ∀ (j : Nat) (l : List V), s.os[j]? = some (some l) → s.cs[j]? = some ((cnt rg j + cnt p j + cnt (allO s.os) j : Nat) : Int)
theorem InvP.at {rg : List V} {s : Cst} {p : List V} (h : InvP rg s p) {i : Int} (hi : Lives s.os i) : s.cs[i.toNat]? = some ((cnt rg i + cnt p i + cnt (allO s.os) i : Nat) : Int) := by
  have := h.count i.toNat _ hi.obj
  rwa [Int.toNat_of_nonneg hi.1] at this
theorem InvP.num {rg : List V} {s : Cst} {v : V} {p : List V} (h : InvP rg s (v :: p)) (hr : v.ref = false) : InvP rg s p := by
  refine ⟨h.len, fun u hu => h.held u ?_, h.flds, fun j l hl => ?_⟩
  · rw [List.mem_append] at hu ⊢
    exact hu.imp id fun h => List.mem_cons_of_mem _ h
  · have := h.count j l hl
    rwa [cnt_cons, if_neg (by simp [hr]), Nat.zero_add] at this
theorem InvP.dec {rg : List V} {s : Cst} {v : V} {p : List V} (h : InvP rg s (v :: p)) (hr : v.ref = true) : ∃ k : Int, s.cs[v.n.toNat]? = some k ∧ 1 ≤ k ∧ k ≤ cnt rg v.n + (p.length + 1) + cnt (allO s.os) v.n ∧ InvP rg ⟨s.os, s.cs.set v.n.toNat (k - 1), s.gone⟩ p := by
  have hv := h.held v (by simp) hr
  have hk := h.at hv
  refine ⟨_, hk, ?_, ?_, ?_⟩
  · rw [cnt_cons, if_pos ⟨hr, rfl⟩]; omega
  · have := cnt_le (v :: p) v.n
    rw [List.length_cons] at this
    omega
  · refine ⟨by rw [List.length_set]; exact h.len, fun u hu => h.held u ?_, h.flds, fun j l hl => ?_⟩
    · rw [List.mem_append] at hu ⊢
      exact hu.imp id fun h => List.mem_cons_of_mem _ h
    · have hj := h.count j l hl
      rw [cnt_cons] at hj
      have hlt : j < s.cs.length := (List.getElem?_eq_some_iff.1 hj).1
      have hv0 := hv.1
      by_cases e : v.n.toNat = j
      · have e' : v.n = (j : Int) := by omega
        rw [e, List.getElem?_set_self hlt, e']
        rw [cnt_cons, if_pos ⟨hr, e'⟩]
        show some _ = some ((_ + _ + cnt (allO s.os) j : Nat) : Int)
        congr 1; omega
      · have e' : ¬ v.n = (j : Int) := by omega
        rw [List.getElem?_set_ne e, hj, if_neg (fun h => e' h.2)]
        show some _ = some ((_ + _ + cnt (allO s.os) j : Nat) : Int)
        congr 1; omega
theorem Lives.unset {os : Os} {i j : Int} (h : Lives os i) (hj : 0 ≤ j) (hne : i ≠ j) : Lives (os.set j.toNat none) i := by
  obtain ⟨h0, l, h1⟩ := h
  exact ⟨h0, l, by rw [List.getElem?_set_ne (by omega)]; exact h1⟩
theorem unset_get {os : Os} {j i : Nat} {l : List V} (h : (os.set j none)[i]? = some (some l)) : i ≠ j ∧ os[i]? = some (some l) := by
  by_cases e : j = i
  · subst e
    rcases Nat.lt_or_ge j os.length with hlt | hge
    · rw [List.getElem?_set_self hlt] at h; cases h
    · rw [List.getElem?_eq_none (by simpa using hge)] at h; cases h
  · rw [List.getElem?_set_ne e] at h; exact ⟨fun h => e h.symm, h⟩
/-- An object whose count is nothing goes; its values are to be taken off. -/
theorem InvP.drop {rg : List V} {s : Cst} {p : List V} {i : Int} (h : InvP rg s p) (hi : Lives s.os i) (h0 : s.cs[i.toNat]? = some 0) (gn : List Int) : InvP rg ⟨s.os.set i.toNat none, s.cs, gn⟩ (objAt s.os i ++ p) := by
  have hc := h.at hi
  rw [h0] at hc
  have hz : cnt rg i = 0 ∧ cnt p i = 0 ∧ cnt (allO s.os) i = 0 := by
    have := Option.some.inj hc
    omega
  have hob := hi.obj
  have hset := fun j => allO_set hob none j
  refine ⟨by rw [List.length_set]; exact h.len, fun u hu hur => ?_, fun k l hl u hu hur => ?_, fun j l hl => ?_⟩
  · rw [List.mem_append, List.mem_append] at hu
    rcases hu with hu | hu | hu
    · exact (h.held u (List.mem_append_left _ hu) hur).unset hi.1 (cnt_zero hz.1 hu hur)
    · exact (h.flds _ _ hob u hu hur).unset hi.1 (cnt_zero hz.2.2 (mem_allO hob hu) hur)
    · exact (h.held u (List.mem_append_right _ hu) hur).unset hi.1 (cnt_zero hz.2.1 hu hur)
  · have hl' := (unset_get hl).2
    exact (h.flds _ _ hl' u hu hur).unset hi.1 (cnt_zero hz.2.2 (mem_allO hl' hu) hur)
  · have hl' := (unset_get hl).2
    have hj := h.count j l hl'
    show s.cs[j]? = _
    rw [hj]
    have := hset j
    simp only [Option.getD_some, Option.getD_none, cnt_nil] at this
    rw [cnt_append]
    show some _ = some ((_ + _ + cnt (allO (s.os.set i.toNat none)) j : Nat) : Int)
    congr 1; omega
/-- There is an end, and it is as it should be; what goes is told once. -/
structure DnEnd (rg q : List V) (s t : Cst) : Prop where
  inv : InvP rg t q
  alive : alive t.os ≤ alive s.os
  len : t.os.length = s.os.length
  shr : ∀ (i : Nat) (l : List V), t.os[i]? = some (some l) → s.os[i]? = some (some l)
  gone : ∃ n, t.gone = s.gone ++ n ∧ n.Nodup ∧ ∀ x, x ∈ n ↔ Lives s.os x ∧ ¬ Lives t.os x
  room : t.gone.length + Go.Proofs.Ytmmcjjklmcfegaa.alive t.os = s.gone.length + Go.Proofs.Ytmmcjjklmcfegaa.alive s.os
  bnd : ∀ M : Int, (∀ x ∈ s.cs, x ≤ M) → ∀ x ∈ t.cs, x ≤ M
  pos : ∀ Z : Nat → Prop, (∀ (j : Nat) (k : Int), s.cs[j]? = some k → Lives s.os j → 0 < k ∨ Z j) → ∀ (j : Nat) (k : Int), t.cs[j]? = some k → Lives t.os j → 0 < k ∨ Z j
theorem lives_shr {s t : Cst} (h : ∀ (i : Nat) (l : List V), t.os[i]? = some (some l) → s.os[i]? = some (some l)) {x : Int} (hx : Lives t.os x) : Lives s.os x := by
  obtain ⟨h0, l, h1⟩ := hx
  exact ⟨h0, l, h _ _ h1⟩
theorem DnEnd.trans {rg q q' : List V} {s t u : Cst} (h1 : DnEnd rg q' s t) (h2 : DnEnd rg q t u) : DnEnd rg q s u := by
  refine ⟨h2.inv, Nat.le_trans h2.alive h1.alive, h2.len.trans h1.len, fun i l h => h1.shr i l (h2.shr i l h), ?_, h2.room.trans h1.room, fun M h => h2.bnd M (h1.bnd M h), fun Z h => h2.pos Z (h1.pos Z h)⟩
  obtain ⟨a, ha, hna, hma⟩ := h1.gone
  obtain ⟨b, hb, hnb, hmb⟩ := h2.gone
  refine ⟨a ++ b, by rw [hb, ha, List.append_assoc], ?_, fun x => ?_⟩
  · rw [List.nodup_append]
    refine ⟨hna, hnb, ?_⟩
    rintro x hx y hy rfl
    exact ((hma x).1 hx).2 ((hmb x).1 hy).1
  · rw [List.mem_append, hma, hmb]
    constructor
    · rintro (⟨h3, h4⟩ | ⟨h3, h4⟩)
      · exact ⟨h3, fun h => h4 (lives_shr h2.shr h)⟩
      · exact ⟨lives_shr h1.shr h3, h4⟩
    · rintro ⟨h3, h4⟩
      by_cases h5 : Lives t.os x
      · exact .inr ⟨h5, h4⟩
      · exact .inl ⟨h3, h5⟩
theorem dn_exists : ∀ (N : Nat) (p q rg : List V) (s : Cst), alive s.os ≤ N → InvP rg s (p ++ q) → ∃ t, Dn p s t ∧ DnEnd rg q s t := by
  intro N
  induction N with
  | zero =>
    intro p
    induction p with
    | nil =>
      intro q rg s _ h
      exact ⟨s, .nil s, h, Nat.le_refl _, rfl, fun _ _ h => h, ⟨[], by simp, List.nodup_nil, fun x => ⟨(fun h => by cases h), fun h => absurd h.1 h.2⟩⟩, rfl, fun _ h => h, fun _ h => h⟩
    | cons v p ih =>
      intro q rg s hN h
      cases hr : v.ref with
      | false =>
        obtain ⟨t, h1, h2⟩ := ih q rg s hN (h.num hr)
        exact ⟨t, .num hr h1, h2⟩
      | true =>
        have hv := (h.held v (by simp) hr).obj
        have := alive_set hv
        omega
  | succ N IH =>
    intro p
    induction p with
    | nil =>
      intro q rg s _ h
      exact ⟨s, .nil s, h, Nat.le_refl _, rfl, fun _ _ h => h, ⟨[], by simp, List.nodup_nil, fun x => ⟨(fun h => by cases h), fun h => absurd h.1 h.2⟩⟩, rfl, fun _ h => h, fun _ h => h⟩
    | cons v p ih =>
      intro q rg s hN h
      cases hr : v.ref with
      | false =>
        obtain ⟨t, h1, h2⟩ := ih q rg s hN (h.num hr)
        exact ⟨t, .num hr h1, h2⟩
      | true =>
        have hv := h.held v (by simp) hr
        obtain ⟨k, hk, hk1, _, hI⟩ := h.dec hr
        have hlt : v.n.toNat < s.cs.length := (List.getElem?_eq_some_iff.1 hk).1
        by_cases hne : k = 1
        · subst hne
          have hD := hI.drop (i := v.n) hv (by show (s.cs.set _ _)[_]? = _; rw [List.getElem?_set_self hlt]; rfl) (s.gone ++ [v.n])
          have hal := alive_set hv.obj
          obtain ⟨t, h1, h2⟩ := IH (objAt s.os v.n) (p ++ q) rg _ (by show alive (s.os.set _ _) ≤ N; omega) hD
          have hE : DnEnd rg (p ++ q) s t := by
            refine ⟨h2.inv, ?_, ?_, fun i l hl => (unset_get (h2.shr i l hl)).2, ?_, ?_, ?_, ?_⟩
            · have := h2.alive
              have e : alive (s.os.set v.n.toNat none) ≤ alive s.os := by omega
              exact Nat.le_trans this e
            · rw [h2.len]; exact List.length_set ..
            · obtain ⟨n, hn, hnd, hmn⟩ := h2.gone
              refine ⟨v.n :: n, by rw [hn]; simp, ?_, fun x => ?_⟩
              · rw [List.nodup_cons]
                refine ⟨fun hx => ?_, hnd⟩
                obtain ⟨_, l, hl⟩ := ((hmn _).1 hx).1
                exact (unset_get hl).1 rfl
              · rw [List.mem_cons, hmn]
                constructor
                · rintro (rfl | ⟨⟨h0, l, hl⟩, h4⟩)
                  · refine ⟨hv, fun hx => ?_⟩
                    obtain ⟨_, l, hl⟩ := hx
                    exact (unset_get (h2.shr _ l hl)).1 rfl
                  · exact ⟨⟨h0, l, (unset_get hl).2⟩, h4⟩
                · rintro ⟨h3, h4⟩
                  by_cases e : x = v.n
                  · exact .inl e
                  · exact .inr ⟨h3.unset hv.1 e, h4⟩
            · have h5 : t.gone.length + alive t.os = (s.gone ++ [v.n]).length + alive (s.os.set v.n.toNat none) := h2.room
              rw [List.length_append, List.length_singleton] at h5
              omega
            · intro M hM
              refine h2.bnd M fun x hx => ?_
              rcases List.mem_or_eq_of_mem_set hx with hx | rfl
              · exact hM x hx
              · have := hM _ (List.mem_of_getElem? hk); omega
            · intro Z hZ
              refine h2.pos Z ?_
              intro j k' hk' hj
              obtain ⟨_, l, hl⟩ := hj
              obtain ⟨hne, hl⟩ := unset_get hl
              rw [Int.toNat_natCast] at hl hne
              change (s.cs.set v.n.toNat _)[j]? = some k' at hk'
              rw [List.getElem?_set_ne (fun e => hne e.symm)] at hk'
              exact hZ j k' hk' (lives_nat hl)
          obtain ⟨u, h3, h4⟩ := ih q rg t (Nat.le_trans hE.alive hN) hE.inv
          exact ⟨u, .drop hr hk h1 h3, hE.trans h4⟩
        · have hE : DnEnd rg (p ++ q) s ⟨s.os, s.cs.set v.n.toNat (k - 1), s.gone⟩ := by
            refine ⟨hI, Nat.le_refl _, rfl, fun _ _ h => h, ⟨[], by simp, List.nodup_nil, fun x => ⟨(fun h => by cases h), fun h => absurd h.1 h.2⟩⟩, rfl, ?_, ?_⟩
            · intro M hM x hx
              rcases List.mem_or_eq_of_mem_set hx with hx | rfl
              · exact hM x hx
              · have := hM _ (List.mem_of_getElem? hk); omega
            intro Z hZ j k' hk' hj
            change (s.cs.set v.n.toNat _)[j]? = some k' at hk'
            by_cases e : v.n.toNat = j
            · rw [e, List.getElem?_set_self (by omega)] at hk'
              left
              have := Option.some.inj hk'
              omega
            · rw [List.getElem?_set_ne e] at hk'
              exact hZ j k' hk' hj
          obtain ⟨u, h3, h4⟩ := ih q rg ⟨s.os, s.cs.set v.n.toNat (k - 1), s.gone⟩ hN hI
          exact ⟨u, .dec k hr hk hne h3, hE.trans h4⟩
open Classical in
/-- The state in the end. -/
noncomputable def dnF (p : List V) (s : Cst) : Cst := if h : ∃ t, Dn p s t then Classical.choose h else s
theorem dnF_of {p : List V} {s t : Cst} (h : Dn p s t) : dnF p s = t := by
  unfold dnF
  have h' : ∃ t, Dn p s t := ⟨t, h⟩
  rw [dif_pos h']
  exact (Classical.choose_spec h').det h
theorem dnF_end {p q rg : List V} {s : Cst} (h : InvP rg s (p ++ q)) : Dn p s (dnF p s) ∧ DnEnd rg q s (dnF p s) := by
  obtain ⟨t, h1, h2⟩ := dn_exists _ p q rg s (Nat.le_refl _) h
  rw [dnF_of h1]; exact ⟨h1, h2⟩
end Go.Proofs.Ytmmcjjklmcfegaa
