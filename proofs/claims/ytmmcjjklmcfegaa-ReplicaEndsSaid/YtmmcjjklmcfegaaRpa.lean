/- A memory that is copied while the work goes on. Plain. -/
import Derived.Test.YtmmcjjklmcfegaaRna
namespace Go.Proofs.Ytmmcjjklmcfegaa

structure Px where
  row : List Int
  cps : List (Option (List V))
  made : List Int
  filled : Nat
  log : List (Int × Nat)
  times : Int
abbrev Cps := List (Option (List V))
def cpAt (c : Cps) (i : Int) : Option (List V) := (c[i.toNat]?).getD none
/-- What has a copy, and which have, in order. -/
abbrev Cm := Cps × List Int
def needs (c : Cps) (v : V) : Bool := v.ref && (cpAt c v.n).isNone
def copied (os : Os) (p : Cm) (v : V) : Cm := if needs p.1 v = true then (p.1.set v.n.toNat (some (zerosV (objAt os v.n).length)), p.2 ++ [v.n]) else p
def putC (c : Cps) (o : Int) (k : Nat) (v : V) : Cps := c.set o.toNat (some (((cpAt c o).getD []).set k v))
def bring (os : Os) (p : Cm) (o : Int) (k : Nat) : Cm := (putC (copied os p ((objAt os o).getD k ⟨false, 0⟩)).1 o k ((objAt os o).getD k ⟨false, 0⟩), (copied os p ((objAt os o).getD k ⟨false, 0⟩)).2)
def bringN (os : Os) (p : Cm) (o : Int) : Nat → Cm
  | 0 => p
  | k + 1 => bring os (bringN os p o k) o k
def exchO (row : List Int) (c : Cps) (os : Os) : Os := row.foldl (fun o i => o.set i.toNat (cpAt c i)) os
def noCps (n : Nat) : Cps := List.replicate n none
def workP (s : Sm Px) : Sm Px :=
  match s.x.log with
  | (o, k) :: l => if (cpAt s.x.cps o).isSome then ⟨s.regs, s.os, { s.x with cps := (bring s.os (s.x.cps, s.x.made) o k).1, made := (bring s.os (s.x.cps, s.x.made) o k).2, log := l }⟩ else ⟨s.regs, s.os, { s.x with log := l }⟩
  | [] => match s.regs.find? (needs s.x.cps) with
    | some v => ⟨s.regs, s.os, { s.x with cps := (copied s.os (s.x.cps, s.x.made) v).1, made := (copied s.os (s.x.cps, s.x.made) v).2 }⟩
    | none => match s.x.made[s.x.filled]? with
      | some o => ⟨s.regs, s.os, { s.x with cps := (bringN s.os (s.x.cps, s.x.made) o (objAt s.os o).length).1, made := (bringN s.os (s.x.cps, s.x.made) o (objAt s.os o).length).2, filled := s.x.filled + 1 }⟩
      | none => ⟨s.regs, exchO s.x.row s.x.cps s.os, ⟨s.x.made, noCps s.os.length, [], 0, [], s.x.times + 1⟩⟩
def pKd : Kd Px where
  new := fun s n => if 24 ≤ s.x.row.length then (s, none) else (⟨s.regs, s.os ++ [some (zerosV n)], { s.x with row := s.x.row ++ [(s.os.length : Int)], cps := s.x.cps ++ [none] }⟩, some (s.os.length : Int))
  put := fun s i k u => ⟨s.regs, s.os.set i.toNat (some ((objAt s.os i).set k u)), { s.x with log := s.x.log ++ [(i, k)] }⟩
  hold := fun s _ _ => s
def pstep (s : Sm Px) (d : Dd) : Sm Px × Ot := if d.kind = 8 then (workP s, ⟨0, false, 0⟩) else pKd.step s d

theorem cpAt_set (c : Cps) {i j : Int} (hi : 0 ≤ i) (hl : i < c.length) (hj : 0 ≤ j) (x : Option (List V)) : cpAt (c.set i.toNat x) j = if j = i then x else cpAt c j := by
  unfold cpAt
  by_cases e : j = i
  · subst e; rw [List.getElem?_set_self (by omega), if_pos rfl]; rfl
  · rw [List.getElem?_set_ne (by omega), if_neg e]
/-- What is so of copies on the way. -/
structure CpI (os : Os) (p : Cm) : Prop where
  cl : p.1.length = os.length
  nodup : p.2.Nodup
  iff : ∀ x, x ∈ p.2 ↔ 0 ≤ x ∧ (cpAt p.1 x).isSome = true
  live : ∀ x ∈ p.2, Lives os x
  len : ∀ x l, cpAt p.1 x = some l → l.length = (objAt os x).length
theorem CpI.no (os : Os) : CpI os (noCps os.length, []) := by
  have h : ∀ x, cpAt (noCps os.length) x = none := fun x => by
    unfold cpAt noCps
    rw [List.getElem?_replicate]; split <;> rfl
  exact ⟨by simp [noCps], List.nodup_nil, fun x => by rw [h]; simp, fun x hx => (by cases hx), fun x l hl => by rw [h] at hl; cases hl⟩
/-- More copies. -/
structure CpLe (p q : Cm) : Prop where
  cp : ∀ x l, 0 ≤ x → cpAt p.1 x = some l → (cpAt q.1 x).isSome = true
  pre : p.2 <+: q.2
theorem CpLe.refl (p : Cm) : CpLe p p := ⟨fun x l _ h => by rw [h]; rfl, List.prefix_refl _⟩
theorem CpLe.trans {p q r : Cm} (h1 : CpLe p q) (h2 : CpLe q r) : CpLe p r := ⟨fun x l h0 h => by
    obtain ⟨m, hm⟩ := Option.isSome_iff_exists.1 (h1.cp x l h0 h)
    exact h2.cp x m h0 hm, h1.pre.trans h2.pre⟩
theorem CpI.copied {os : Os} {p : Cm} (h : CpI os p) {v : V} (hv : v.ref = true → Lives os v.n) : CpI os (copied os p v) ∧ CpLe p (copied os p v) ∧ (v.ref = true → v.n ∈ (copied os p v).2) ∧ (∀ x l, 0 ≤ x → cpAt p.1 x = some l → cpAt (copied os p v).1 x = some l) := by
  unfold Proofs.Ytmmcjjklmcfegaa.copied
  split
  · rename_i hn
    unfold needs at hn
    rw [Bool.and_eq_true] at hn
    obtain ⟨hr, hno⟩ := hn
    have hno' : cpAt p.1 v.n = none := by simpa using hno
    have hlv := hv hr
    have h0 := hlv.1
    have hlt := hlv.lt
    have hcl := h.cl
    have hat : ∀ j, 0 ≤ j → cpAt (p.1.set v.n.toNat (some (zerosV (objAt os v.n).length))) j = if j = v.n then some (zerosV (objAt os v.n).length) else cpAt p.1 j := fun j hj => cpAt_set _ h0 (by omega) hj _
    have hkeep : ∀ x l, 0 ≤ x → cpAt p.1 x = some l → cpAt (p.1.set v.n.toNat (some (zerosV (objAt os v.n).length))) x = some l := by
      intro x l h1 h2
      rw [hat x h1, if_neg]
      · exact h2
      · rintro rfl; rw [hno'] at h2; cases h2
    refine ⟨⟨by rw [List.length_set]; exact hcl, ?_, ?_, ?_, ?_⟩, ⟨fun x l h1 h2 => by rw [hkeep x l h1 h2]; rfl, List.prefix_append _ _⟩, fun _ => by simp, hkeep⟩
    · rw [List.nodup_append]
      refine ⟨h.nodup, by simp, fun a ha b hb => ?_⟩
      rw [List.mem_singleton] at hb
      subst hb
      rintro rfl
      have := ((h.iff _).1 ha).2
      rw [hno'] at this; cases this
    · intro x
      rw [List.mem_append, List.mem_singleton, h.iff]
      constructor
      · rintro (⟨h1, h2⟩ | rfl)
        · obtain ⟨m, hm⟩ := Option.isSome_iff_exists.1 h2
          exact ⟨h1, by rw [hkeep x m h1 hm]; rfl⟩
        · exact ⟨h0, by rw [hat _ h0, if_pos rfl]; rfl⟩
      · rintro ⟨h1, h2⟩
        rw [hat x h1] at h2
        split at h2
        · rename_i e; exact .inr e
        · exact .inl ⟨h1, h2⟩
    · intro x hx
      rcases List.mem_append.1 hx with hx | hx
      · exact h.live x hx
      · rw [List.mem_singleton] at hx; subst hx; exact hlv
    · intro x l hl
      by_cases h1 : 0 ≤ x
      · rw [hat x h1] at hl
        split at hl
        · rename_i e; cases hl; rw [e]; simp [zerosV]
        · exact h.len x l hl
      · have e : x.toNat = 0 := by omega
        have e2 : cpAt (p.1.set v.n.toNat (some (zerosV (objAt os v.n).length))) x = cpAt (p.1.set v.n.toNat (some (zerosV (objAt os v.n).length))) 0 := by unfold cpAt; rw [e]; rfl
        rw [e2, hat 0 (by omega)] at hl
        have e3 : objAt os x = objAt os 0 := by unfold objAt; rw [e]; rfl
        rw [e3]
        split at hl
        · rename_i e4; cases hl; rw [e4]; simp [zerosV]
        · exact h.len 0 l hl
  · rename_i hn
    refine ⟨h, CpLe.refl _, fun hr => ?_, fun _ _ _ h => h⟩
    have hlv := hv hr
    rw [h.iff]
    refine ⟨hlv.1, ?_⟩
    unfold needs at hn
    rw [hr] at hn
    cases hc : cpAt p.1 v.n with
    | none => rw [hc] at hn; exact absurd rfl hn
    | some l => rfl
theorem CpI.putC {os : Os} {p : Cm} (h : CpI os p) {o : Int} (ho : o ∈ p.2) (k : Nat) (v : V) : CpI os (putC p.1 o k v, p.2) ∧ (∀ x, 0 ≤ x → cpAt (putC p.1 o k v) x = if x = o then some (((cpAt p.1 o).getD []).set k v) else cpAt p.1 x) := by
  have hlv := h.live o ho
  have h0 := hlv.1
  have hlt := hlv.lt
  have hcl := h.cl
  have hsome := ((h.iff o).1 ho).2
  obtain ⟨m, hm⟩ := Option.isSome_iff_exists.1 hsome
  have hat : ∀ x, 0 ≤ x → cpAt (Proofs.Ytmmcjjklmcfegaa.putC p.1 o k v) x = if x = o then some (((cpAt p.1 o).getD []).set k v) else cpAt p.1 x := fun x hx => by
    unfold Proofs.Ytmmcjjklmcfegaa.putC
    exact cpAt_set _ h0 (by omega) hx _
  refine ⟨⟨by unfold Proofs.Ytmmcjjklmcfegaa.putC; rw [List.length_set]; exact hcl, h.nodup, fun x => ?_, h.live, fun x l hl => ?_⟩, hat⟩
  · rw [h.iff]
    constructor
    · rintro ⟨h1, h2⟩
      refine ⟨h1, ?_⟩
      rw [hat x h1]; split
      · rfl
      · exact h2
    · rintro ⟨h1, h2⟩
      refine ⟨h1, ?_⟩
      rw [hat x h1] at h2
      split at h2
      · rename_i e; rw [e]; exact hsome
      · exact h2
  · have key : ∀ x l, 0 ≤ x → cpAt (Proofs.Ytmmcjjklmcfegaa.putC p.1 o k v) x = some l → l.length = (objAt os x).length := by
      intro x l h1 hl
      rw [hat x h1] at hl
      split at hl
      · rename_i e
        cases hl
        rw [List.length_set, hm, e]
        exact h.len o m hm
      · exact h.len x l hl
    by_cases h1 : 0 ≤ x
    · exact key x l h1 hl
    · have e : x.toNat = 0 := by omega
      have e2 : cpAt (Proofs.Ytmmcjjklmcfegaa.putC p.1 o k v) x = cpAt (Proofs.Ytmmcjjklmcfegaa.putC p.1 o k v) 0 := by unfold cpAt; rw [e]; rfl
      have e3 : objAt os x = objAt os 0 := by unfold objAt; rw [e]; rfl
      rw [e2] at hl
      rw [e3]; exact key 0 l (by omega) hl
/-- A value that was brought. -/
theorem CpI.bring {os : Os} {p : Cm} (h : CpI os p) (hclo : ∀ (i : Nat) (l : List V), os[i]? = some (some l) → ∀ v ∈ l, v.ref = true → Lives os v.n) {o : Int} (ho : o ∈ p.2) (k : Nat) :
    CpI os (bring os p o k) ∧ CpLe p (bring os p o k) ∧ (∀ v, (objAt os o)[k]? = some v → (v.ref = true → v.n ∈ (bring os p o k).2) ∧ ∃ l, cpAt (bring os p o k).1 o = some l ∧ l[k]? = some v) ∧
      (∀ x l j, 0 ≤ x → cpAt p.1 x = some l → (x ≠ o ∨ j ≠ k) → ∃ l', cpAt (bring os p o k).1 x = some l' ∧ l'[j]? = l[j]?) := by
  obtain ⟨v, hv⟩ : ∃ v, (objAt os o).getD k ⟨false, 0⟩ = v := ⟨_, rfl⟩
  have hlv : v.ref = true → Lives os v.n := by
    intro hr
    have hol := (h.live o ho).obj
    rw [List.getD_eq_getElem?_getD] at hv
    cases hg : (objAt os o)[k]? with
    | none => rw [hg] at hv; simp only [Option.getD_none] at hv; subst hv; cases hr
    | some u => rw [hg] at hv; simp only [Option.getD_some] at hv; subst hv; exact hclo _ _ hol _ (List.mem_of_getElem? hg) hr
  obtain ⟨c1, c2, c3, c4⟩ := h.copied hlv
  have ho2 : o ∈ (Proofs.Ytmmcjjklmcfegaa.copied os p v).2 := c2.pre.subset ho
  obtain ⟨p1, p2⟩ := c1.putC ho2 k v
  have h0 := (h.live o ho).1
  have hso := ((h.iff o).1 ho).2
  obtain ⟨m, hm⟩ := Option.isSome_iff_exists.1 hso
  have hm2 := c4 o m h0 hm
  unfold Proofs.Ytmmcjjklmcfegaa.bring
  rw [hv]
  refine ⟨p1, ⟨fun x l h1 h2 => ?_, c2.pre⟩, fun u hu => ?_, fun x l j h1 h2 hne => ?_⟩
  · rw [p2 x h1]; split
    · rfl
    · rw [c4 x l h1 h2]; rfl
  · have huv : u = v := by rw [← hv, List.getD_eq_getElem?_getD, hu]; rfl
    subst huv
    refine ⟨c3, _, by rw [p2 o h0, if_pos rfl], ?_⟩
    rw [hm2]
    have := h.len o m hm
    have hk := (List.getElem?_eq_some_iff.1 hu).1
    rw [Option.getD_some, List.getElem?_set_self (by omega)]
  · rw [p2 x h1]
    split
    · rename_i e
      subst e
      rw [hm] at h2
      cases h2
      refine ⟨_, rfl, ?_⟩
      rw [hm2, Option.getD_some, List.getElem?_set_ne]
      rcases hne with hne | hne
      · exact absurd rfl hne
      · exact fun e => hne e.symm
    · exact ⟨l, c4 x l h1 h2, rfl⟩
theorem CpI.bringN {os : Os} {p : Cm} (h : CpI os p) (hclo : ∀ (i : Nat) (l : List V), os[i]? = some (some l) → ∀ v ∈ l, v.ref = true → Lives os v.n) {o : Int} (ho : o ∈ p.2) : ∀ k, 
    CpI os (bringN os p o k) ∧ CpLe p (bringN os p o k) ∧ (∀ j v, j < k → (objAt os o)[j]? = some v → (v.ref = true → v.n ∈ (bringN os p o k).2) ∧ ∃ l, cpAt (bringN os p o k).1 o = some l ∧ l[j]? = some v) ∧
      (∀ x (l : List V), 0 ≤ x → cpAt p.1 x = some l → x ≠ o → ∃ l' : List V, cpAt (bringN os p o k).1 x = some l' ∧ ∀ j : Nat, l'[j]? = l[j]?)
  | 0 => ⟨h, CpLe.refl _, fun j v hj => by omega, fun x l _ hl _ => ⟨l, hl, fun _ => rfl⟩⟩
  | k + 1 => by
    obtain ⟨h1, h2, h3, h4⟩ := CpI.bringN h hclo ho k
    have ho2 := h2.pre.subset ho
    obtain ⟨b1, b2, b3, b4⟩ := h1.bring hclo ho2 k
    have h0 := (h.live o ho).1
    refine ⟨b1, h2.trans b2, fun j v hj hv => ?_, fun x l hx hl hne => ?_⟩
    · by_cases e : j = k
      · subst e; exact b3 v hv
      · obtain ⟨h5, l, h6, h7⟩ := h3 j v (by omega) hv
        obtain ⟨l', h8, h9⟩ := b4 o l j h0 h6 (.inr e)
        exact ⟨fun hr => b2.pre.subset (h5 hr), l', h8, by rw [h9]; exact h7⟩
    · obtain ⟨l1, h5, h6⟩ := h4 x l hx hl hne
      have hs := b4 x l1 0 hx h5 (.inl hne)
      obtain ⟨l2, h7, _⟩ := hs
      refine ⟨l2, h7, fun j => ?_⟩
      obtain ⟨l3, h8, h9⟩ := b4 x l1 j hx h5 (.inl hne)
      rw [h7] at h8; cases h8
      rw [h9, h6]
/-- What is always so. -/
structure InvQ (s : Sm Px) : Prop where
  fine : Fine s.regs s.os
  len : s.os.length ≤ 900
  clo : ∀ (i : Nat) (l : List V), s.os[i]? = some (some l) → ∀ v ∈ l, v.ref = true → Lives s.os v.n
  rown : s.x.row.Nodup
  row : ∀ x, x ∈ s.x.row ↔ Lives s.os x
  cp : CpI s.os (s.x.cps, s.x.made)
  fil : s.x.filled ≤ s.x.made.length
  log : ∀ p ∈ s.x.log, Lives s.os p.1 ∧ p.2 < (objAt s.os p.1).length
  con : ∀ (j : Nat) (x : Int), j < s.x.filled → s.x.made[j]? = some x → ∀ (k : Nat) v, (objAt s.os x)[k]? = some v → (x, k) ∈ s.x.log ∨ ((v.ref = true → v.n ∈ s.x.made) ∧ ∃ l, cpAt s.x.cps x = some l ∧ l[k]? = some v)
theorem InvQ.led {s : Sm Px} (h : InvQ s) {i : Int} (hi : RchM s.regs s.os i) : Lives s.os i :=
  hi.least (fun v hv hr => (h.fine.regs v hv).1 hr) (fun _ _ _ hl v hv hr => h.clo _ _ hl v hv hr)
theorem InvQ.fld {s : Sm Px} (h : InvQ s) {v u : V} (hv : v ∈ s.regs) (hr : v.ref = true) (hu : u ∈ objAt s.os v.n) : OkV s.os u := by
  have hl := (h.fine.regs v hv).1 hr
  exact ⟨fun hu2 => h.clo _ _ hl.obj u hu hu2, h.fine.num _ _ hl.obj u hu⟩
theorem exchO_len (row : List Int) (c : Cps) (os : Os) : (exchO row c os).length = os.length := by
  unfold exchO
  induction row generalizing os with
  | nil => rfl
  | cons x row ih => rw [List.foldl_cons, ih, List.length_set]
theorem exchO_get (c : Cps) : ∀ (row : List Int) (os : Os), (∀ x ∈ row, 0 ≤ x) → ∀ i : Nat, (exchO row c os)[i]? = if (i : Int) ∈ row ∧ i < os.length then some (cpAt c (i : Int)) else os[i]? := by
  intro row
  induction row with
  | nil => intro os _ i; simp [exchO]
  | cons x row ih =>
    intro os hl i
    have hx := hl x (List.mem_cons_self ..)
    show (exchO row c (os.set x.toNat (cpAt c x)))[i]? = _
    rw [ih _ (fun y hy => hl y (List.mem_cons_of_mem _ hy)), List.length_set]
    by_cases h1 : (i : Int) ∈ row ∧ i < os.length
    · rw [if_pos h1, if_pos ⟨List.mem_cons_of_mem _ h1.1, h1.2⟩]
    · rw [if_neg h1]
      by_cases h2 : i = x.toNat
      · subst h2
        rw [Int.toNat_of_nonneg hx]
        by_cases h3 : x.toNat < os.length
        · rw [List.getElem?_set_self h3, if_pos ⟨List.mem_cons_self .., h3⟩]
        · rw [List.getElem?_eq_none (by rw [List.length_set]; omega), if_neg (fun h => h3 h.2), List.getElem?_eq_none (by omega)]
      · rw [List.getElem?_set_ne (fun e => h2 e.symm), if_neg]
        rintro ⟨h3, h4⟩
        rcases List.mem_cons.1 h3 with h3 | h3
        · omega
        · exact h1 ⟨h3, h4⟩
/-- All are exchanged: what has no copy goes, all else is as it was. -/
theorem InvQ.exch {s : Sm Px} (h : InvQ s) (hl : s.x.log = []) (hf : s.x.made[s.x.filled]? = none) : exchO s.x.row s.x.cps s.os = killed s.os s.x.made := by
  have hfl : s.x.filled = s.x.made.length := by
    have := List.getElem?_eq_none_iff.1 hf
    have := h.fil
    omega
  apply List.ext_getElem?
  intro i
  rw [exchO_get _ _ _ (fun x hx => ((h.row x).1 hx).1), killed_get]
  by_cases hm : (i : Int) ∈ s.x.made
  · rw [if_pos hm]
    have hlv := h.cp.live _ hm
    have hlt := hlv.lt
    rw [Int.toNat_natCast] at hlt
    rw [if_pos ⟨(h.row _).2 hlv, hlt⟩]
    have hob := hlv.obj
    rw [Int.toNat_natCast] at hob
    rw [hob]
    obtain ⟨m, hm2⟩ := Option.isSome_iff_exists.1 ((h.cp.iff _).1 hm).2
    have hm3 : cpAt s.x.cps (i : Int) = some m := hm2
    rw [hm3]
    have hlen := h.cp.len _ m hm2
    congr 2
    apply List.ext_getElem?
    intro k
    obtain ⟨j, hj⟩ := List.getElem?_of_mem hm
    have hjl := (List.getElem?_eq_some_iff.1 hj).1
    cases hv : (objAt s.os (i : Int))[k]? with
    | none => rw [List.getElem?_eq_none_iff] at hv ⊢; omega
    | some v =>
      rcases h.con j (i : Int) (by omega) hj k v hv with h1 | ⟨_, l, h1, h2⟩
      · rw [hl] at h1; cases h1
      · rw [hm3] at h1; cases h1; exact h2
  · rw [if_neg hm]
    by_cases hi : i < s.os.length
    · rw [if_pos hi]
      by_cases hr : (i : Int) ∈ s.x.row
      · rw [if_pos ⟨hr, hi⟩]
        have : cpAt s.x.cps (i : Int) = none := by
          cases hc : cpAt s.x.cps (i : Int) with
          | none => rfl
          | some l => exact absurd ((h.cp.iff _).2 ⟨by omega, by show (cpAt s.x.cps _).isSome = true; rw [hc]; rfl⟩) hm
        rw [this]
      · rw [if_neg (fun h => hr h.1)]
        cases hc : s.os[i]? with
        | none => rw [List.getElem?_eq_none_iff] at hc; omega
        | some c =>
          cases c with
          | none => rfl
          | some l => exact absurd ((h.row _).2 (lives_nat hc)) hr
    · rw [if_neg hi, if_neg (fun h => hi h.2), List.getElem?_eq_none (by omega)]
/-- What has copies has all that is come to. -/
theorem InvQ.closed {s : Sm Px} (h : InvQ s) (hl : s.x.log = []) (hr : s.regs.find? (needs s.x.cps) = none) (hf : s.x.made[s.x.filled]? = none) {i : Int} (hi : RchM s.regs s.os i) : i ∈ s.x.made := by
  have hfl : s.x.filled = s.x.made.length := by
    have := List.getElem?_eq_none_iff.1 hf
    have := h.fil
    omega
  refine hi.least (P := (· ∈ s.x.made)) (fun v hv hvr => ?_) (fun x l hx hxl v hv hvr => ?_)
  · have h1 := List.find?_eq_none.1 hr v hv
    have h2 := (h.fine.regs v hv).1 hvr
    refine (h.cp.iff _).2 ⟨h2.1, ?_⟩
    unfold needs at h1
    rw [hvr] at h1
    show (cpAt s.x.cps v.n).isSome = true
    cases hc : cpAt s.x.cps v.n with
    | none => rw [hc] at h1; exact absurd rfl h1
    | some _ => rfl
  · obtain ⟨j, hj⟩ := List.getElem?_of_mem hx
    have hjl := (List.getElem?_eq_some_iff.1 hj).1
    have hob : objAt s.os x = l := by unfold objAt; rw [hxl]; rfl
    obtain ⟨k, hk⟩ := List.getElem?_of_mem hv
    rcases h.con j x (by omega) hj k v (by rw [hob]; exact hk) with h1 | ⟨h1, _⟩
    · rw [hl] at h1; cases h1
    · exact h1 hvr
theorem filled_get {m m' : List Int} (hp : m <+: m') {f j : Nat} {x : Int} (hf : f ≤ m.length) (hj : j < f) (h : m'[j]? = some x) : m[j]? = some x := by
  obtain ⟨t, rfl⟩ := hp
  rwa [List.getElem?_append_left (by omega)] at h
/-- Copies that grew: what was in step stays so. -/
theorem InvQ.grow {s : Sm Px} (h : InvQ s) {q : Cm} (hq : CpI s.os q) (log : List (Int × Nat)) (hlog : ∀ p ∈ log, p ∈ s.x.log) (filled : Nat) (hfil : filled ≤ q.2.length)
    (hcon : ∀ (j : Nat) (x : Int), j < filled → q.2[j]? = some x → ∀ (k : Nat) v, (objAt s.os x)[k]? = some v → (x, k) ∈ log ∨ ((v.ref = true → v.n ∈ q.2) ∧ ∃ l, cpAt q.1 x = some l ∧ l[k]? = some v)) :
    InvQ ⟨s.regs, s.os, ⟨s.x.row, q.1, q.2, filled, log, s.x.times⟩⟩ :=
  ⟨h.fine, h.len, h.clo, h.rown, h.row, hq, hfil, fun p hp => h.log p (hlog p hp), hcon⟩
theorem InvQ.work {s : Sm Px} (h : InvQ s) : InvQ (workP s) := by
  unfold workP
  split
  · rename_i o k l hlog
    have hsub : ∀ p ∈ l, p ∈ s.x.log := fun p hp => by rw [hlog]; exact List.mem_cons_of_mem _ hp
    split
    · rename_i hs
      have hl0 := h.log (o, k) (by rw [hlog]; exact List.mem_cons_self ..)
      have ho : o ∈ s.x.made := (h.cp.iff o).2 ⟨hl0.1.1, hs⟩
      obtain ⟨b1, b2, b3, b4⟩ := h.cp.bring h.clo ho k
      refine h.grow b1 l hsub s.x.filled (Nat.le_trans h.fil b2.pre.length_le) ?_
      intro j x hj hx k' v hv
      have hx0 := filled_get b2.pre h.fil hj hx
      have hxm : x ∈ s.x.made := List.mem_of_getElem? hx0
      have hx1 := (h.cp.iff x).1 hxm
      by_cases e : x = o ∧ k' = k
      · obtain ⟨rfl, rfl⟩ := e
        exact .inr (b3 v hv)
      · rcases h.con j x hj hx0 k' v hv with h1 | ⟨h1, m, h2, h3⟩
        · rw [hlog] at h1
          rcases List.mem_cons.1 h1 with h1 | h1
          · cases h1; exact absurd ⟨rfl, rfl⟩ e
          · exact .inl h1
        · right
          refine ⟨fun hr => b2.pre.subset (h1 hr), ?_⟩
          obtain ⟨l', h4, h5⟩ := b4 x m k' hx1.1 h2 (by
            by_cases e1 : x = o
            · exact .inr fun e2 => e ⟨e1, e2⟩
            · exact .inl e1)
          exact ⟨l', h4, by rw [h5]; exact h3⟩
    · rename_i hs
      refine h.grow h.cp l hsub s.x.filled h.fil ?_
      intro j x hj hx k' v hv
      rcases h.con j x hj hx k' v hv with h1 | h1
      · rw [hlog] at h1
        rcases List.mem_cons.1 h1 with h1 | h1
        · cases h1
          have := ((h.cp.iff _).1 (List.mem_of_getElem? hx)).2
          exact absurd this hs
        · exact .inl h1
      · exact .inr h1
  · rename_i hlog
    split
    · rename_i v hv
      have hvm := List.mem_of_find?_eq_some hv
      obtain ⟨c1, c2, c3, c4⟩ := h.cp.copied (h.fine.regs v hvm).1
      refine h.grow c1 s.x.log (fun _ h => h) s.x.filled (Nat.le_trans h.fil c2.pre.length_le) ?_
      intro j x hj hx k' u hu
      have hx0 := filled_get c2.pre h.fil hj hx
      have hx1 := (h.cp.iff x).1 (List.mem_of_getElem? hx0)
      rcases h.con j x hj hx0 k' u hu with h1 | ⟨h1, m, h2, h3⟩
      · exact .inl h1
      · exact .inr ⟨fun hr => c2.pre.subset (h1 hr), m, c4 x m hx1.1 h2, h3⟩
    · rename_i hr
      split
      · rename_i o ho
        have hom : o ∈ s.x.made := List.mem_of_getElem? ho
        obtain ⟨b1, b2, b3, b4⟩ := h.cp.bringN h.clo hom (objAt s.os o).length
        have hfl := (List.getElem?_eq_some_iff.1 ho).1
        refine h.grow b1 s.x.log (fun _ h => h) (s.x.filled + 1) (Nat.le_trans hfl b2.pre.length_le) ?_
        intro j x hj hx k' u hu
        have hx0 := filled_get b2.pre (f := s.x.filled + 1) hfl hj hx
        have hx1 := (h.cp.iff x).1 (List.mem_of_getElem? hx0)
        by_cases e : j = s.x.filled
        · subst e
          rw [ho] at hx0
          cases hx0
          exact .inr (b3 k' u (List.getElem?_eq_some_iff.1 hu).1 hu)
        · rcases h.con j x (by omega) hx0 k' u hu with h1 | ⟨h1, m, h2, h3⟩
          · exact .inl h1
          · have hne : x ≠ o := by
              rintro rfl
              have := (List.getElem?_inj (by show j < s.x.made.length; omega) h.cp.nodup).1 (hx0.trans ho.symm)
              exact e this
            obtain ⟨l', h4, h5⟩ := b4 x m hx1.1 h2 hne
            exact .inr ⟨fun hr => b2.pre.subset (h1 hr), l', h4, by rw [h5]; exact h3⟩
      · rename_i hf
        have hex := h.exch hlog hf
        have hcl := fun i hi => h.closed hlog hr hf (i := i) hi
        rw [hex]
        have hfl : s.x.filled = s.x.made.length := by
          have := List.getElem?_eq_none_iff.1 hf
          have := h.fil
          omega
        have hlvm : ∀ x ∈ s.x.made, Lives (killed s.os s.x.made) x := fun x hx => killed_lives.2 ⟨h.cp.live x hx, hx⟩
        refine ⟨⟨h.fine.regs8, fun v hv => ⟨fun hvr => hlvm _ (hcl _ (.root hv hvr)), (h.fine.regs v hv).2⟩, fun i l hi => h.fine.flen i l (killed_some hi).1, fun i l hi => h.fine.num i l (killed_some hi).1, fun i l hi => ?_⟩, ?_, ?_, h.cp.nodup, ?_, ?_, Nat.le_refl _, fun p hp => (by cases hp), fun j x hj => (by cases hj)⟩
        · rw [killed_len]; exact h.fine.rng i l (killed_some hi).1
        · show (killed _ _).length ≤ 900
          rw [killed_len]; exact h.len
        · intro i l hi v hv hvr
          obtain ⟨h1, h2⟩ := killed_some hi
          obtain ⟨j, hj⟩ := List.getElem?_of_mem h2
          have hjl := (List.getElem?_eq_some_iff.1 hj).1
          obtain ⟨k, hk⟩ := List.getElem?_of_mem hv
          have hob : objAt s.os (i : Int) = l := objAt_nat h1
          rcases h.con j (i : Int) (by omega) hj k v (by rw [hob]; exact hk) with h3 | ⟨h3, _⟩
          · rw [hlog] at h3; cases h3
          · exact hlvm _ (h3 hvr)
        · intro x
          show x ∈ s.x.made ↔ _
          rw [killed_lives]
          exact ⟨fun hx => ⟨h.cp.live x hx, hx⟩, fun hx => hx.2⟩
        · have := CpI.no (killed s.os s.x.made)
          rw [killed_len] at this
          exact this
end Go.Proofs.Ytmmcjjklmcfegaa
