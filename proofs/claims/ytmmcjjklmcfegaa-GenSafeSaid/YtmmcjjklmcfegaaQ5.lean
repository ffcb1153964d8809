/- The memory without end, plainly; what is always so of registers and objects, kept by each step. -/
import Derived.Test.YtmmcjjklmcfegaaBase1
namespace Go.Proofs.Ytmmcjjklmcfegaa

theorem OkV.keep {os os' : Os} {v : V} (h : OkV os v) (hl : ∀ i, Lives os i → Lives os' i) : OkV os' v := ⟨fun hr => hl _ (h.1 hr), h.2⟩
theorem okv_zero (os : Os) : OkV os ⟨false, 0⟩ := ⟨(fun h => by cases h), fun _ => by simp⟩
theorem Lives.push {os : Os} {i : Int} (h : Lives os i) (c : Option (List V)) : Lives (os ++ [c]) i := by
  obtain ⟨h0, l, h1⟩ := h
  exact ⟨h0, l, by rw [List.getElem?_append_left (List.getElem?_eq_some_iff.1 h1).1]; exact h1⟩
theorem Lives.put {os : Os} {i j : Int} (h : Lives os i) (l : List V) : Lives (os.set j.toNat (some l)) i := by
  obtain ⟨h0, m, h1⟩ := h
  by_cases e : j.toNat = i.toNat
  · exact ⟨h0, l, by rw [e, List.getElem?_set_self (List.getElem?_eq_some_iff.1 h1).1]⟩
  · exact ⟨h0, m, by rw [List.getElem?_set_ne e]; exact h1⟩
theorem lives_new (os : Os) (l : List V) : Lives (os ++ [some l]) (os.length : Int) := ⟨by omega, l, by rw [Int.toNat_natCast, List.getElem?_append_right (Nat.le_refl _)]; simp⟩
section
variable {regs : List V} {os : Os}
theorem Fine.setReg (h : Fine regs os) (r : Nat) {u : V} (hu : OkV os u) : Fine (regs.set r u) os := by
  refine ⟨by rw [List.length_set]; exact h.regs8, ?_, h.flen, h.num, h.rng⟩
  intro v hv
  rcases List.mem_or_eq_of_mem_set hv with h1 | rfl
  · exact h.regs v h1
  · exact hu
theorem push_get {n : Nat} {i : Nat} {l : List V} (h : (os ++ [some (zerosV n)])[i]? = some (some l)) : os[i]? = some (some l) ∨ l = zerosV n := by
  rcases Nat.lt_or_ge i os.length with h1 | h1
  · rw [List.getElem?_append_left h1] at h; exact .inl h
  · rw [List.getElem?_append_right h1] at h
    have h2 : i - os.length = 0 := by
      have := (List.getElem?_eq_some_iff.1 h).1
      simp at this; omega
    rw [h2] at h
    right
    simpa using h.symm
theorem mem_zeros {n : Nat} {v : V} (h : v ∈ zerosV n) : v = ⟨false, 0⟩ := List.eq_of_mem_replicate h
theorem Fine.push (h : Fine regs os) {n : Nat} (hn : n ≤ 4) : Fine regs (os ++ [some (zerosV n)]) := by
  refine ⟨h.regs8, fun v hv => (h.regs v hv).keep (fun i hi => hi.push _), ?_, ?_, ?_⟩
  · intro i l hl
    rcases push_get hl with h1 | rfl
    · exact h.flen i l h1
    · simpa [zerosV] using hn
  · intro i l hl v hv hr
    rcases push_get hl with h1 | rfl
    · exact h.num i l h1 v hv hr
    · rw [mem_zeros hv]; simp
  · intro i l hl v hv hr
    rw [List.length_append]
    rcases push_get hl with h1 | rfl
    · have := h.rng i l h1 v hv hr
      simp; omega
    · rw [mem_zeros hv] at hr; cases hr
theorem put_get {j : Int} {k : Nat} {u : V} {i : Nat} {l : List V} (h : (os.set j.toNat (some ((objAt os j).set k u)))[i]? = some (some l)) (hj : Lives os j) : os[i]? = some (some l) ∨ l = (objAt os j).set k u := by
  by_cases e : j.toNat = i
  · rw [e, List.getElem?_set_self (by rw [← e]; exact hj.lt)] at h
    right; simpa using h.symm
  · rw [List.getElem?_set_ne e] at h; exact .inl h
theorem Fine.put (h : Fine regs os) {j : Int} (hj : Lives os j) (k : Nat) {u : V} (hu : OkV os u) : Fine regs (os.set j.toNat (some ((objAt os j).set k u))) := by
  have hob := hj.obj
  have hmem : ∀ v ∈ (objAt os j).set k u, v ∈ objAt os j ∨ v = u := fun v hv => List.mem_or_eq_of_mem_set hv
  refine ⟨h.regs8, fun v hv => (h.regs v hv).keep (fun i hi => hi.put _), ?_, ?_, ?_⟩
  · intro i l hl
    rcases put_get hl hj with h1 | rfl
    · exact h.flen i l h1
    · rw [List.length_set]; exact h.flen _ _ hob
  · intro i l hl v hv hr
    rcases put_get hl hj with h1 | rfl
    · exact h.num i l h1 v hv hr
    · rcases hmem v hv with h2 | rfl
      · exact h.num _ _ hob v h2 hr
      · exact hu.2 hr
  · intro i l hl v hv hr
    rw [List.length_set]
    rcases put_get hl hj with h1 | rfl
    · exact h.rng i l h1 v hv hr
    · rcases hmem v hv with h2 | rfl
      · exact h.rng _ _ hob v h2 hr
      · have h3 := hu.1 hr
        have := h3.lt
        have := h3.1
        omega
end
def iKd : Kd Unit := ⟨fun s n => (⟨s.regs, s.os ++ [some (zerosV n)], ()⟩, some (s.os.length : Int)), fun s i k u => ⟨s.regs, s.os.set i.toNat (some ((objAt s.os i).set k u)), ()⟩, fun s _ _ => s⟩
structure InvI (s : Sm Unit) : Prop where
  fine : Fine s.regs s.os
  all : ∀ i : Nat, i < s.os.length → ∃ l, s.os[i]? = some (some l)
  room : s.os.length ≤ 900
theorem InvI.lives {s : Sm Unit} (h : InvI s) {i : Int} (h0 : 0 ≤ i) (h1 : i < s.os.length) : Lives s.os i := by
  obtain ⟨l, hl⟩ := h.all i.toNat (by omega)
  exact ⟨h0, l, hl⟩
theorem InvI.okf {s : Sm Unit} (h : InvI s) {i : Int} (hi : Lives s.os i) {u : V} (hu : u ∈ objAt s.os i) : OkV s.os u := by
  refine ⟨fun hr => ?_, h.fine.num _ _ hi.obj u hu⟩
  have := h.fine.rng _ _ hi.obj u hu hr
  exact h.lives this.1 this.2
theorem InvI.fld {s : Sm Unit} (h : InvI s) {v u : V} (hv : v ∈ s.regs) (hr : v.ref = true) (hu : u ∈ objAt s.os v.n) : OkV s.os u := h.okf ((h.fine.regs v hv).1 hr) hu
/-- Each step of the memory without end. -/
theorem InvI.step {s : Sm Unit} (h : InvI s) (hr : s.os.length < 900) (d : Dd) : InvI (iKd.step s d).1 ∧ s.os.length ≤ (iKd.step s d).1.os.length ∧ (iKd.step s d).1.os.length ≤ s.os.length + 1 := by
  have hid : InvI s ∧ s.os.length ≤ s.os.length ∧ s.os.length ≤ s.os.length + 1 := ⟨h, Nat.le_refl _, by omega⟩
  have hset : ∀ (r : Int) (u : V), OkV s.os u → InvI (iKd.set s r u) := fun r u hu => ⟨h.fine.setReg r.toNat hu, h.all, h.room⟩
  unfold Kd.step
  split
  · exact hid
  · rename_i hw
    have hw0 : wrongC d = 0 := Classical.byContradiction hw
    obtain ⟨k1, k7, hto, hfr, hn, hn2⟩ := wrong_zero hw0
    split
    · rename_i e1
      have hn4 := hn e1
      refine ⟨⟨?_, ?_, ?_⟩, ?_, ?_⟩
      · refine (h.fine.push (n := d.n.toNat) (by omega)).setReg d.to_.toNat ?_
        exact ⟨fun _ => lives_new _ _, fun h => by cases h⟩
      · intro i hi
        rcases Nat.lt_or_ge i s.os.length with h1 | h1
        · obtain ⟨l, hl⟩ := h.all i h1
          exact ⟨l, by show (s.os ++ _)[i]? = _; rw [List.getElem?_append_left h1]; exact hl⟩
        · have hi2 : i < (s.os ++ [some (zerosV d.n.toNat)]).length := hi
          simp at hi2
          have : i = s.os.length := by omega
          subst this
          exact ⟨_, by show (s.os ++ _)[s.os.length]? = _; rw [List.getElem?_append_right (Nat.le_refl _)]; simp; rfl⟩
      · show (s.os ++ [_]).length ≤ 900
        simp; omega
      · show s.os.length ≤ (s.os ++ [_]).length
        simp
      · show (s.os ++ [_]).length ≤ s.os.length + 1
        simp
    · rename_i e1
      split
      · rename_i e2
        exact ⟨hset _ _ ⟨(fun h => by cases h), fun _ => hn2 e2⟩, Nat.le_refl _, Nat.le_succ _⟩
      · rename_i e2
        have hf := hfr (by omega)
        have hokf := h.fine.reg hf.1 hf.2
        split
        · exact ⟨hset _ _ hokf, Nat.le_refl _, Nat.le_succ _⟩
        · split
          · rename_i e4
            split
            · exact hid
            · rename_i hfc
              have hfc0 : fieldC s.os (Proofs.Ytmmcjjklmcfegaa.reg s.regs d.to_) d.at_ = 0 := Classical.byContradiction hfc
              obtain ⟨f1, f2, f3⟩ := field_zero hfc0
              have ht := hto (by omega)
              have hl := (h.fine.reg ht.1 ht.2).1 f1
              refine ⟨⟨h.fine.put hl d.at_.toNat hokf, ?_, ?_⟩, ?_, ?_⟩
              · intro i hi
                have hi2 : i < (s.os.set (Proofs.Ytmmcjjklmcfegaa.reg s.regs d.to_).n.toNat (some ((objAt s.os (Proofs.Ytmmcjjklmcfegaa.reg s.regs d.to_).n).set d.at_.toNat (Proofs.Ytmmcjjklmcfegaa.reg s.regs d.frm)))).length := hi
                rw [List.length_set] at hi2
                have h4 := (h.lives (i := (i : Int)) (by omega) (by omega)).put (j := (Proofs.Ytmmcjjklmcfegaa.reg s.regs d.to_).n) ((objAt s.os (Proofs.Ytmmcjjklmcfegaa.reg s.regs d.to_).n).set d.at_.toNat (Proofs.Ytmmcjjklmcfegaa.reg s.regs d.frm))
                obtain ⟨_, l, h5⟩ := h4
                rw [Int.toNat_natCast] at h5
                exact ⟨l, h5⟩
              · show (s.os.set _ _).length ≤ 900
                rw [List.length_set]; exact h.room
              · show s.os.length ≤ (s.os.set _ _).length
                rw [List.length_set]; exact Nat.le_refl _
              · show (s.os.set _ _).length ≤ _
                rw [List.length_set]; omega
          · split
            · rename_i e5
              split
              · exact hid
              · rename_i hfc
                have hfc0 : fieldC s.os (Proofs.Ytmmcjjklmcfegaa.reg s.regs d.frm) d.at_ = 0 := Classical.byContradiction hfc
                obtain ⟨f1, f2, f3⟩ := field_zero hfc0
                have hl := hokf.1 f1
                refine ⟨hset _ _ (h.okf hl ?_), Nat.le_refl _, Nat.le_succ _⟩
                rw [List.getD_eq_getElem?_getD, List.getElem?_eq_getElem (by omega)]
                exact List.getElem_mem _
            · split
              · exact hid
              · exact hid
/-- What is done, one behind the other: the state in the end, and what was told. -/
def runs {X : Type} (st : Sm X → Dd → Sm X × Ot) (s : Sm X) (ds : List Dd) : Sm X × List Ot := ds.foldl (fun p d => ((st p.1 d).1, p.2 ++ [(st p.1 d).2])) (s, [])
theorem runs_snoc {X : Type} (st : Sm X → Dd → Sm X × Ot) (s : Sm X) (ds : List Dd) (d : Dd) : runs st s (ds ++ [d]) = ((st (runs st s ds).1 d).1, (runs st s ds).2 ++ [(st (runs st s ds).1 d).2]) := by simp [runs]
theorem runs_len {X : Type} (st : Sm X → Dd → Sm X × Ot) (s : Sm X) (ds : List Dd) : (runs st s ds).2.length = ds.length := by
  have key : ∀ (ds : List Dd) (p : Sm X × List Ot), (ds.foldl (fun p d => ((st p.1 d).1, p.2 ++ [(st p.1 d).2])) p).2.length = p.2.length + ds.length := by
    intro ds
    induction ds with
    | nil => intro p; simp
    | cons d ds ih => intro p; rw [List.foldl_cons, ih]; simp; omega
  have := key ds (s, [])
  simpa [runs] using this
theorem runs_append {X : Type} (st : Sm X → Dd → Sm X × Ot) (s : Sm X) (xs bs : List Dd) : runs st s (xs ++ bs) = ((runs st (runs st s xs).1 bs).1, (runs st s xs).2 ++ (runs st (runs st s xs).1 bs).2) := by
  have key : ∀ (ds : List Dd) (s : Sm X) (l : List Ot), ds.foldl (fun p d => ((st p.1 d).1, p.2 ++ [(st p.1 d).2])) (s, l) = ((runs st s ds).1, l ++ (runs st s ds).2) := by
    intro ds
    induction ds with
    | nil => intro s l; simp [runs]
    | cons d ds ih =>
      intro s l
      rw [List.foldl_cons, ih]
      have h2 : runs st s (d :: ds) = ((runs st (st s d).1 ds).1, [(st s d).2] ++ (runs st (st s d).1 ds).2) := by
        unfold runs
        rw [List.foldl_cons, List.nil_append]
        exact ih _ _
      rw [h2]; simp
  unfold runs
  rw [List.foldl_append]
  exact key bs _ _
end Go.Proofs.Ytmmcjjklmcfegaa
