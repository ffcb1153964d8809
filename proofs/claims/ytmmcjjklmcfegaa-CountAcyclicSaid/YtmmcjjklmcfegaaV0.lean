/- Counting: how it begins. Plain. -/
import Derived.Test.YtmmcjjklmcfegaaR5
import Derived.Test.YtmmcjjklmcfegaaS0
namespace Go.Proofs.Ytmmcjjklmcfegaa

def ups (c : List Int) (l : List V) : List Int := l.foldl up1 c
theorem ups_nil (c : List Int) : ups c [] = c := rfl
theorem ups_snoc (c : List Int) (l : List V) (v : V) : ups c (l ++ [v]) = up1 (ups c l) v := by simp [ups]
theorem ups_append (c : List Int) (a b : List V) : ups c (a ++ b) = ups (ups c a) b := by simp [ups]
theorem ups_len (c : List Int) (l : List V) : (ups c l).length = c.length := by
  unfold ups
  induction l generalizing c with
  | nil => rfl
  | cons v l ih => rw [List.foldl_cons, ih, up1_len]
theorem ups_at {c : List Int} {l : List V} (h0 : ∀ v ∈ l, v.ref = true → 0 ≤ v.n) {j : Nat} {k : Int} (h : c[j]? = some k) : (ups c l)[j]? = some (k + (cnt l (j : Int) : Nat)) := by
  unfold ups
  induction l generalizing c k with
  | nil => rw [List.foldl_nil, h, cnt_nil]; simp
  | cons v l ih =>
    rw [List.foldl_cons, ih (fun u hu => h0 u (List.mem_cons_of_mem _ hu)) (up1_at (h0 v (List.mem_cons_self ..)) h), cnt_cons]
    congr 1
    split <;> push_cast <;> omega
/-- An object whose count is nothing goes. -/
theorem drop_end {rg q : List V} {s : Cst} {i : Int} (h : InvP rg s q) (hi : Lives s.os i) (h0 : s.cs[i.toNat]? = some 0) : DnEnd rg q s (dnF (objAt s.os i) ⟨s.os.set i.toNat none, s.cs, s.gone ++ [i]⟩) := by
  have hD := h.drop hi h0 (s.gone ++ [i])
  have hal := alive_set hi.obj
  obtain ⟨h1, h2⟩ := dnF_end (p := objAt s.os i) (q := q) (rg := rg) hD
  obtain ⟨t, ht⟩ : ∃ t, dnF (objAt s.os i) ⟨s.os.set i.toNat none, s.cs, s.gone ++ [i]⟩ = t := ⟨_, rfl⟩
  rw [ht] at h1 h2 ⊢
  refine ⟨h2.inv, ?_, ?_, fun k l hl => (unset_get (h2.shr k l hl)).2, ?_, ?_, fun M hM => h2.bnd M hM, ?_⟩
  · have := h2.alive
    have e : alive (s.os.set i.toNat none) ≤ alive s.os := by omega
    exact Nat.le_trans this e
  · rw [h2.len]; exact List.length_set ..
  · obtain ⟨n, hn, hnd, hmn⟩ := h2.gone
    refine ⟨i :: n, by rw [hn]; simp, ?_, fun x => ?_⟩
    · rw [List.nodup_cons]
      refine ⟨fun hx => ?_, hnd⟩
      obtain ⟨_, l, hl⟩ := ((hmn _).1 hx).1
      exact (unset_get hl).1 rfl
    · rw [List.mem_cons, hmn]
      constructor
      · rintro (rfl | ⟨⟨h0, l, hl⟩, h4⟩)
        · refine ⟨hi, fun hx => ?_⟩
          obtain ⟨_, l, hl⟩ := hx
          exact (unset_get (h2.shr _ l hl)).1 rfl
        · exact ⟨⟨h0, l, (unset_get hl).2⟩, h4⟩
      · rintro ⟨h3, h4⟩
        by_cases e : x = i
        · exact .inl e
        · exact .inr ⟨h3.unset hi.1 e, h4⟩
  · have h5 : t.gone.length + alive t.os = (s.gone ++ [i]).length + alive (s.os.set i.toNat none) := h2.room
    rw [List.length_append, List.length_singleton] at h5
    omega
  · intro Z hZ
    refine h2.pos Z ?_
    intro j k' hk' hj
    obtain ⟨_, l, hl⟩ := hj
    obtain ⟨hne, hl⟩ := unset_get hl
    rw [Int.toNat_natCast] at hl
    exact hZ j k' hk' (lives_nat hl)
theorem DnEnd.refl {rg q : List V} {s : Cst} (h : InvP rg s q) : DnEnd rg q s s :=
  ⟨h, Nat.le_refl _, rfl, fun _ _ h => h, ⟨[], by simp, List.nodup_nil, fun x => ⟨(fun h => by cases h), fun h => absurd h.1 h.2⟩⟩, rfl, fun _ h => h, fun _ h => h⟩
/-- What nobody points at from the start goes, one behind the other. -/
noncomputable def zap1 (s : Cst) (i : Nat) : Cst := if s.cs.getD i 0 = 0 ∧ ((s.os[i]?).getD none).isSome then dnF (objAt s.os (i : Int)) ⟨s.os.set i none, s.cs, s.gone ++ [(i : Int)]⟩ else s
noncomputable def zaps (s : Cst) (k : Nat) : Cst := (List.range k).foldl zap1 s
theorem zaps_succ (s : Cst) (k : Nat) : zaps s (k + 1) = zap1 (zaps s k) k := by simp [zaps, List.range_succ]
theorem lives_some {os : Os} {i : Nat} (h : ((os[i]?).getD none).isSome = true) : Lives os (i : Int) := by
  cases hc : os[i]? with
  | none => rw [hc] at h; cases h
  | some o =>
    cases o with
    | none => rw [hc] at h; cases h
    | some l => exact lives_nat hc
theorem zaps_end {rg : List V} {s : Cst} (h : InvP rg s []) : ∀ k : Nat, k ≤ s.os.length → DnEnd rg [] s (zaps s k) ∧ ∀ (j : Nat) (c : Int), (∀ (j : Nat) (c : Int), s.cs[j]? = some c → Lives s.os j → 0 ≤ c) → (zaps s k).cs[j]? = some c → Lives (zaps s k).os j → 0 < c ∨ k ≤ j := by
  intro k
  induction k with
  | zero => exact fun _ => ⟨.refl h, fun j c _ _ _ => .inr (Nat.zero_le _)⟩
  | succ k ih =>
    intro hk
    obtain ⟨hE, hP⟩ := ih (by omega)
    rw [zaps_succ]
    obtain ⟨t, ht⟩ : ∃ t, zaps s k = t := ⟨_, rfl⟩
    rw [ht] at hE hP ⊢
    unfold zap1
    split
    · rename_i hc
      have hl := lives_some hc.2
      have hkc : t.cs[k]? = some 0 := by
        have := hE.inv.at hl
        rw [Int.toNat_natCast] at this
        rw [this]
        have h2 := hc.1
        rw [List.getD_eq_getElem?_getD, this] at h2
        simp only [Option.getD_some] at h2
        rw [h2]
      have hd := drop_end hE.inv hl (by rw [Int.toNat_natCast]; exact hkc)
      rw [Int.toNat_natCast] at hd
      refine ⟨hE.trans hd, fun j c h0 hj hlj => ?_⟩
      have h3 := hd.pos (fun j => k ≤ j) (fun j c hc hl => hP j c h0 hc hl) j c hj hlj
      rcases h3 with h3 | h3
      · exact .inl h3
      · rcases Nat.lt_or_ge k j with h4 | h4
        · exact .inr h4
        · have : j = k := by omega
          subst this
          obtain ⟨n, _, _, hmn⟩ := hd.gone
          exfalso
          obtain ⟨_, l, hl'⟩ := hlj
          have h5 := dnF_end (p := objAt t.os (j : Int)) (q := []) (rg := rg) (s := ⟨t.os.set j none, t.cs, t.gone ++ [(j : Int)]⟩) (by have := hE.inv.drop hl (by rw [Int.toNat_natCast]; exact hkc) (t.gone ++ [(j : Int)]); rw [Int.toNat_natCast] at this; exact this)
          have h6 := h5.2.shr _ _ hl'
          rw [Int.toNat_natCast] at h6
          exact (unset_get h6).1 rfl
    · rename_i hc
      refine ⟨hE, fun j c h0 hj hlj => ?_⟩
      rcases hP j c h0 hj hlj with h3 | h3
      · exact .inl h3
      · rcases Nat.lt_or_ge k j with h4 | h4
        · exact .inr h4
        · have : j = k := by omega
          subst this
          left
          obtain ⟨_, l, hl'⟩ := hlj
          rw [Int.toNat_natCast] at hl'
          have h5 : ¬ c = 0 := fun e => hc ⟨by rw [List.getD_eq_getElem?_getD, hj]; exact e, by rw [hl']; rfl⟩
          have h6 := hE.inv.count j l hl'
          rw [hj] at h6
          have := Option.some.inj h6
          omega
/-- How it begins. -/
def startC0 (g : G) : Cst := ⟨g.objs.map some, ups (ups (List.replicate g.objs.length 0) (firstR g.roots)) g.objs.flatten, []⟩
theorem allO_start (g : G) : allO (g.objs.map some) = g.objs.flatten := by
  unfold allO
  rw [List.map_map]
  congr 1
  conv => rhs; rw [← List.map_id g.objs]
  rfl
theorem start_inv {g : G} (hG : Good g) : InvP (firstR g.roots) (startC0 g) [] := by
  have hI := startI_inv hG
  have hreg : ∀ v ∈ firstR g.roots, v.ref = true → Lives (g.objs.map some) v.n := fun v hv => (hI.fine.regs v hv).1
  have hfl : ∀ v ∈ g.objs.flatten, v.ref = true → Lives (g.objs.map some) v.n := fun v hv => (okv_good hG (by unfold allV; exact List.mem_append_right _ hv)).1
  refine ⟨by show (ups (ups _ _) _).length = (g.objs.map some).length; rw [ups_len, ups_len]; simp, fun v hv hr => ?_, fun i l hl v hv hr => ?_, fun j l hl => ?_⟩
  · rw [List.append_nil] at hv; exact hreg v hv hr
  · change (g.objs.map some)[i]? = _ at hl
    rw [List.getElem?_map] at hl
    obtain ⟨l', h1, h2⟩ := Option.map_eq_some_iff.1 hl
    cases h2
    exact hfl v (List.mem_flatten.2 ⟨l, List.mem_of_getElem? h1, hv⟩) hr
  · change (g.objs.map some)[j]? = _ at hl
    have hj : j < g.objs.length := by have := (List.getElem?_eq_some_iff.1 hl).1; simpa using this
    show (ups (ups _ _) _)[j]? = some ((_ + _ + cnt (allO (g.objs.map some)) _ : Nat) : Int)
    rw [allO_start, ups_at (fun v hv hr => (hfl v hv hr).1) (ups_at (k := 0) (fun v hv hr => (hreg v hv hr).1) (by rw [List.getElem?_replicate, if_pos hj])), cnt_nil]
    congr 1; push_cast; omega
noncomputable def startC (g : G) : Sm Cx := ofC (firstR g.roots) (zaps (startC0 g) g.objs.length)
theorem start_bnd {g : G} (hG : Good g) : ∀ x ∈ (startC0 g).cs, x ≤ 100000 := by
  intro x hx
  obtain ⟨j, hj⟩ := List.getElem?_of_mem hx
  have hI := start_inv hG
  have hlt : j < g.objs.length := by
    have := (List.getElem?_eq_some_iff.1 hj).1
    rw [hI.len] at this
    simpa [startC0] using this
  have h1 := hI.count j (g.objs[j]) (by show (g.objs.map some)[j]? = _; rw [List.getElem?_map, List.getElem?_eq_getElem hlt]; rfl)
  rw [hj] at h1
  have h2 := Option.some.inj h1
  have h3 := cnt_le (firstR g.roots) (j : Int)
  have h4 := cnt_le (allO (startC0 g).os) (j : Int)
  have h5 := allO_len (startI_inv hG).fine.flen
  have h6 : (startI g).os = (startC0 g).os := rfl
  rw [h6] at h5
  have h7 := (startI_inv hG).fine.regs8
  have h8 : (startC0 g).os.length ≤ 24 := by show (g.objs.map some).length ≤ 24; rw [List.length_map]; exact hG.objs
  have h9 : (firstR g.roots).length = 8 := h7
  rw [cnt_nil] at h2
  omega
theorem startC_inv {g : G} (hG : Good g) : InvK (startC g) := by
  have hI := start_inv hG
  have hF := (startI_inv hG).fine
  have hlen : (startC0 g).os.length = g.objs.length := by simp [startC0]
  obtain ⟨hE, hP⟩ := zaps_end hI g.objs.length (by rw [hlen]; exact Nat.le_refl _)
  have hal : alive (startC0 g).os = g.objs.length := by
    unfold alive startC0
    simp only
    rw [List.countP_map]
    simp
  refine ⟨Fine.shr (os := (startC0 g).os) hF hE.len hE.shr (fun v hv hr => hE.inv.held v (List.mem_append_left _ hv) hr), hE.inv, ?_, ?_, hE.bnd _ (start_bnd hG), ?_, ?_, ?_⟩
  · show (zaps _ _).os.length ≤ 900
    rw [hE.len, hlen]; have := hG.objs; omega
  · show (zaps _ _).gone.length + alive (zaps _ _).os = (zaps _ _).os.length
    rw [hE.room, hE.len, hal, hlen]; simp [startC0]
  · intro j k hk hl
    rcases hP j k (fun j c hc hl => by
      have h1 := hI.at hl
      rw [Int.toNat_natCast, hc] at h1
      have := Option.some.inj h1
      omega) hk hl with h | h
    · exact h
    · have h1 := hl.lt
      have h2 : (startC g).os.length = g.objs.length := by show (zaps _ _).os.length = _; rw [hE.len, hlen]
      omega
  · obtain ⟨n, h1, h2, h3⟩ := hE.gone
    show (zaps _ _).gone.Nodup
    rw [h1]; exact h2
  · obtain ⟨n, h1, h2, h3⟩ := hE.gone
    intro x
    show x ∈ (zaps _ _).gone ↔ 0 ≤ x ∧ x < ((zaps _ _).os.length : Int) ∧ ¬ Lives (zaps _ _).os x
    rw [h1, hE.len, hlen]
    show x ∈ [] ++ n ↔ _
    rw [List.nil_append, h3]
    constructor
    · rintro ⟨h4, h5⟩
      have h6 := h4.lt
      rw [hlen] at h6
      have := h4.1
      exact ⟨h4.1, by omega, h5⟩
    · rintro ⟨h4, h5, h6⟩
      refine ⟨⟨h4, g.objs[x.toNat]'(by omega), ?_⟩, h6⟩
      show (g.objs.map some)[x.toNat]? = _
      rw [List.getElem?_map, List.getElem?_eq_getElem (by omega)]; rfl
theorem zap1_yes {s : Cst} {i : Nat} {l : List V} (h0 : s.cs[i]? = some 0) (h : s.os[i]? = some (some l)) : zap1 s i = dnF (objAt s.os (i : Int)) ⟨s.os.set i none, s.cs, s.gone ++ [(i : Int)]⟩ := by
  unfold zap1
  rw [if_pos ⟨getD_at h0, by rw [h]; rfl⟩]
theorem zap1_dead {s : Cst} {i : Nat} (h : s.os[i]? = some none) : zap1 s i = s := by
  unfold zap1
  rw [if_neg (by rintro ⟨_, h2⟩; rw [h] at h2; cases h2)]
theorem zap1_no {s : Cst} {i : Nat} {x : Int} (h : s.cs[i]? = some x) (hx : ¬ x = 0) : zap1 s i = s := by
  unfold zap1
  rw [if_neg (by rintro ⟨h2, _⟩; rw [getD_at h] at h2; exact hx h2)]
theorem InvK.step_len {room : Int} {s : Sm Cx} (h : InvK s) (d : Dd) : ((cKd room).step s d).1.os.length ≤ s.os.length + 1 := by
  refine step_keep (cKd room) (fun t => t.os.length ≤ s.os.length + 1) s d (Nat.le_succ _) h.fine (fun v u => h.fld) ?_ ?_ ?_ ?_
  · intro r v h0 h1 hv
    have hr : r.toNat < s.regs.length := by rw [h.fine.regs8]; omega
    have := (dnF_end (p := [s.regs.getD r.toNat ⟨false, 0⟩]) (q := []) (h.inv.hold hr hv.1)).2.len
    exact Nat.le_succ_of_le (Nat.le_of_eq this)
  · intro i k u hi hk hu
    have := (dnF_end (p := [(objAt s.os i).getD k ⟨false, 0⟩]) (q := []) (h.inv.put hi hk hu.1)).2.len
    have h2 : (s.os.set i.toNat (some ((objAt s.os i).set k u))).length = s.os.length := List.length_set ..
    exact Nat.le_succ_of_le (Nat.le_of_eq (this.trans h2))
  · intro n hn he
    unfold cKd at he ⊢
    simp only at he ⊢
    split at he
    · rename_i hroom; rw [if_pos hroom]; exact Nat.le_succ _
    · cases he
  · intro n o r hn h0 h1 he
    unfold cKd at he ⊢
    simp only at he ⊢
    split at he
    · cases he
    · rename_i hroom
      rw [if_neg hroom]
      have he := Option.some.inj he
      subst he
      have hr : r.toNat < s.regs.length := by rw [h.fine.regs8]; omega
      have := (dnF_end (p := [s.regs.getD r.toNat ⟨false, 0⟩]) (q := []) ((h.inv.new n).hold (u := ⟨true, (s.os.length : Int)⟩) hr fun _ => lives_new s.os (zerosV n))).2.len
      have h2 : (s.os ++ [some (zerosV n)]).length = s.os.length + 1 := by simp
      exact Nat.le_of_eq (this.trans h2)
theorem runsC_inv {g : G} (hG : Good g) (room : Int) : ∀ (k : Nat) (ds : List Dd), k ≤ ds.length → k ≤ 100 → InvK (runs (cKd room).step (startC g) (ds.take k)).1 ∧ (runs (cKd room).step (startC g) (ds.take k)).1.os.length ≤ 24 + k := by
  intro k
  induction k with
  | zero =>
    intro ds _ _
    rw [List.take_zero]
    refine ⟨startC_inv hG, ?_⟩
    have hlen : (startC0 g).os.length = g.objs.length := by simp [startC0]
    have := (zaps_end (start_inv hG) g.objs.length (by rw [hlen]; exact Nat.le_refl _)).1.len
    show (zaps _ _).os.length ≤ 24 + 0
    rw [this, hlen]; exact hG.objs
  | succ k ih =>
    intro ds hk h100
    obtain ⟨h1, h2⟩ := ih ds (by omega) (by omega)
    obtain ⟨d, hd⟩ : ∃ d, ds[k]? = some d := ⟨ds[k]'(by omega), List.getElem?_eq_getElem (by omega)⟩
    rw [runs_take _ _ hd]
    have h3 := h1.step_len (room := room) d
    exact ⟨h1.step (by omega) d, Nat.le_trans h3 (by omega)⟩
theorem up_fine {n : Nat} {l : List V} {v : V} (hl : ∀ u ∈ l, u.ref = true → 0 ≤ u.n) (hll : l.length ≤ 1000) (hv : v.ref = true → 0 ≤ v.n ∧ v.n < (n : Int)) :
    v.ref = true → ∃ (j : Nat) (x : Int), v.n = (j : Int) ∧ (ups (List.replicate n 0) l)[j]? = some x ∧ -1000000 ≤ x ∧ x ≤ 1000000 := by
  intro hr
  obtain ⟨h0, h1⟩ := hv hr
  have h2 := ups_at (c := List.replicate n 0) (l := l) (j := v.n.toNat) (k := 0) hl (by rw [List.getElem?_replicate, if_pos (by omega)])
  have h3 := cnt_le l ((v.n.toNat : Nat) : Int)
  exact ⟨v.n.toNat, _, by omega, h2, by omega, by omega⟩
/-- All that is counted at the start, in order. -/
theorem reg_rng {g : G} (hG : Good g) {v : V} (hv : v ∈ firstR g.roots) (hr : v.ref = true) : 0 ≤ v.n ∧ v.n < (g.objs.length : Int) := by
  have h := ((startI_inv hG).fine.regs v hv).1 hr
  have h1 := h.lt
  have h2 : (startI g).os.length = g.objs.length := by simp [startI]
  have := h.1
  omega
theorem fld_rng {g : G} (hG : Good g) {v : V} (hv : v ∈ g.objs.flatten) (hr : v.ref = true) : 0 ≤ v.n ∧ v.n < (g.objs.length : Int) := by
  have h := (okv_good hG (by unfold allV; exact List.mem_append_right _ hv)).1 hr
  have h1 := h.lt
  have h2 : (g.objs.map some).length = g.objs.length := by simp
  have := h.1
  omega
theorem flat_take {g : G} {i : Nat} {o : List V} (h : g.objs[i]? = some o) : (g.objs.take (i + 1)).flatten = (g.objs.take i).flatten ++ o := by
  rw [take_succ_some _ _ _ h]; simp
theorem flat_len {g : G} (hG : Good g) (i : Nat) : (g.objs.take i).flatten.length ≤ 96 := by
  have h1 := flatten_le (g.objs.take i) 4 (fun x hx => hG.fields x (List.mem_of_mem_take hx))
  have h2 := take_len_le g.objs i
  have h3 := hG.objs
  omega
end Go.Proofs.Ytmmcjjklmcfegaa
