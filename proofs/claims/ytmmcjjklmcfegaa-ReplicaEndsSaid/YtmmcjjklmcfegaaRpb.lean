/- A memory that is copied: each step; runs; what is told. Plain. -/
import Derived.Test.YtmmcjjklmcfegaaRpa
import Derived.Test.YtmmcjjklmcfegaaRnb
namespace Go.Proofs.Ytmmcjjklmcfegaa

theorem cpAt_push (c : Cps) (x : Int) : cpAt (c ++ [none]) x = cpAt c x := by
  unfold cpAt
  rcases Nat.lt_or_ge x.toNat c.length with h1 | h1
  · rw [List.getElem?_append_left h1]
  · rw [List.getElem?_eq_none (l := c) h1]
    by_cases e : x.toNat = c.length
    · rw [e, List.getElem?_append_right (Nat.le_refl _)]; simp
    · rw [List.getElem?_eq_none (by simp; omega)]
theorem put_objlen {os : Os} {j : Int} (hj : Lives os j) (k : Nat) (u : V) (i : Int) : (objAt (os.set j.toNat (some ((objAt os j).set k u))) i).length = (objAt os i).length := by
  unfold objAt
  by_cases e : j.toNat = i.toNat
  · rw [← e, List.getElem?_set_self hj.lt]
    simp
  · rw [List.getElem?_set_ne e]
section
variable {s : Sm Px}
theorem InvQ.set (h : InvQ s) {r : Nat} {v : V} (hv : OkV s.os v) : InvQ ⟨s.regs.set r v, s.os, s.x⟩ :=
  ⟨h.fine.setReg r hv, h.len, h.clo, h.rown, h.row, h.cp, h.fil, h.log, h.con⟩
theorem InvQ.put (h : InvQ s) {i : Int} {k : Nat} {u : V} (hi : Lives s.os i) (hk : k < (objAt s.os i).length) (hu : OkV s.os u) : InvQ (pKd.put s i k u) := by
  have hlv : ∀ x, Lives (s.os.set i.toNat (some ((objAt s.os i).set k u))) x ↔ Lives s.os x := fun x => put_lives hi _ x
  have hol := put_objlen hi k u
  have hob : ∀ x, 0 ≤ x → objAt (s.os.set i.toNat (some ((objAt s.os i).set k u))) x = if x = i then (objAt s.os i).set k u else objAt s.os x := fun x hx => objAt_set _ hx hi.1 (by have := hi.lt; have := hi.1; omega) _
  refine ⟨h.fine.put hi k hu, ?_, ?_, h.rown, fun x => ?_, ⟨?_, h.cp.nodup, h.cp.iff, fun x hx => (hlv x).2 (h.cp.live x hx), fun x l hl => ?_⟩, h.fil, ?_, ?_⟩
  · show (s.os.set _ _).length ≤ 900
    rw [List.length_set]; exact h.len
  · intro j l hl v hv hr
    rw [show (pKd.put s i k u).os = s.os.set i.toNat (some ((objAt s.os i).set k u)) from rfl] at hl ⊢
    rw [hlv]
    rcases put_get hl hi with h1 | rfl
    · exact h.clo j l h1 v hv hr
    · rcases List.mem_or_eq_of_mem_set hv with hv | rfl
      · exact h.clo _ _ hi.obj v hv hr
      · exact hu.1 hr
  · show x ∈ s.x.row ↔ Lives (s.os.set i.toNat (some ((objAt s.os i).set k u))) x
    rw [hlv]; exact h.row x
  · show s.x.cps.length = (s.os.set _ _).length
    rw [List.length_set]; exact h.cp.cl
  · show l.length = (objAt (s.os.set i.toNat (some ((objAt s.os i).set k u))) x).length
    rw [hol]; exact h.cp.len x l hl
  · intro p hp
    show Lives (s.os.set i.toNat (some ((objAt s.os i).set k u))) p.1 ∧ p.2 < (objAt (s.os.set i.toNat (some ((objAt s.os i).set k u))) p.1).length
    rw [hlv, hol]
    rcases List.mem_append.1 (show p ∈ s.x.log ++ [(i, k)] from hp) with hp | hp
    · exact h.log p hp
    · rw [List.mem_singleton] at hp; subst hp; exact ⟨hi, hk⟩
  · intro j x hj hx k' v hv
    have hx0 := ((h.cp.iff x).1 (List.mem_of_getElem? hx)).1
    have hv2 : (objAt (s.os.set i.toNat (some ((objAt s.os i).set k u))) x)[k']? = some v := hv
    rw [hob x hx0] at hv2
    show (x, k') ∈ s.x.log ++ [(i, k)] ∨ _
    by_cases e : x = i ∧ k' = k
    · obtain ⟨rfl, rfl⟩ := e
      exact .inl (List.mem_append_right _ (List.mem_singleton.2 rfl))
    · have hold : (objAt s.os x)[k']? = some v := by
        split at hv2
        · rename_i e1
          subst e1
          rwa [List.getElem?_set_ne (fun e2 => e ⟨rfl, e2.symm⟩)] at hv2
        · exact hv2
      rcases h.con j x hj hx k' v hold with h1 | h1
      · exact .inl (List.mem_append_left _ h1)
      · exact .inr h1
theorem InvQ.new (h : InvQ s) (hl : s.os.length < 900) {n : Nat} (hn : n ≤ 4) (r : Nat) : InvQ ⟨s.regs.set r ⟨true, (s.os.length : Int)⟩, s.os ++ [some (zerosV n)], { s.x with row := s.x.row ++ [(s.os.length : Int)], cps := s.x.cps ++ [none] }⟩ := by
  have hob : ∀ x, Lives s.os x → objAt (s.os ++ [some (zerosV n)]) x = objAt s.os x := fun x hx => objAt_push' hx
  have hno : ¬ Lives s.os (s.os.length : Int) := fun h => by have := h.lt; omega
  refine ⟨(h.fine.push hn).setReg r ⟨fun _ => lives_new _ _, fun h => by cases h⟩, by show (s.os ++ [_]).length ≤ 900; simp; omega, ?_, ?_, fun x => ?_, ⟨?_, h.cp.nodup, fun x => ?_, fun x hx => (h.cp.live x hx).push _, fun x l hl' => ?_⟩, h.fil, ?_, ?_⟩
  · intro j l hj v hv hr
    rcases push_get hj with h1 | rfl
    · exact (h.clo j l h1 v hv hr).push _
    · rw [mem_zeros hv] at hr; cases hr
  · show (s.x.row ++ [_]).Nodup
    rw [List.nodup_append]
    refine ⟨h.rown, by simp, fun a ha b hb => ?_⟩
    rw [List.mem_singleton] at hb
    subst hb
    rintro rfl
    exact hno ((h.row _).1 ha)
  · show x ∈ s.x.row ++ [_] ↔ Lives (s.os ++ [_]) x
    rw [List.mem_append, List.mem_singleton, h.row]
    constructor
    · rintro (h1 | rfl)
      · exact h1.push _
      · exact lives_new _ _
    · exact lives_push
  · show (s.x.cps ++ [none]).length = (s.os ++ [_]).length
    rw [List.length_append, List.length_append, h.cp.cl]; rfl
  · show x ∈ s.x.made ↔ 0 ≤ x ∧ (cpAt (s.x.cps ++ [none]) x).isSome = true
    rw [h.cp.iff]
    constructor
    · rintro ⟨h1, h2⟩; exact ⟨h1, by rw [cpAt_push]; exact h2⟩
    · rintro ⟨h1, h2⟩; exact ⟨h1, by rw [cpAt_push] at h2; exact h2⟩
  · have key : ∀ x l, 0 ≤ x → cpAt (s.x.cps ++ [none]) x = some l → l.length = (objAt (s.os ++ [some (zerosV n)]) x).length := by
      intro x l h0 h1
      rw [cpAt_push] at h1
      have hx := h.cp.live x ((h.cp.iff x).2 ⟨h0, by show (cpAt s.x.cps x).isSome = true; rw [h1]; rfl⟩)
      rw [hob x hx]
      exact h.cp.len x l h1
    by_cases h0 : 0 ≤ x
    · exact key x l h0 hl'
    · have e : x.toNat = 0 := by omega
      have e2 : cpAt (s.x.cps ++ [none]) x = cpAt (s.x.cps ++ [none]) 0 := by unfold cpAt; rw [e]; rfl
      have e3 : objAt (s.os ++ [some (zerosV n)]) x = objAt (s.os ++ [some (zerosV n)]) 0 := by unfold objAt; rw [e]; rfl
      show l.length = (objAt (s.os ++ [some (zerosV n)]) x).length
      rw [e3]
      have hl2 : cpAt (s.x.cps ++ [none]) x = some l := hl'
      rw [e2] at hl2
      exact key 0 l (by omega) hl2
  · intro p hp
    obtain ⟨h1, h2⟩ := h.log p hp
    show Lives (s.os ++ [_]) p.1 ∧ p.2 < (objAt (s.os ++ [_]) p.1).length
    rw [hob _ h1]
    exact ⟨h1.push _, h2⟩
  · intro j x hj hx k v hv
    have hx1 := h.cp.live x (List.mem_of_getElem? hx)
    have hv2 : (objAt (s.os ++ [some (zerosV n)]) x)[k]? = some v := hv
    rw [hob x hx1] at hv2
    have hx0 := hx1.1
    rcases h.con j x hj hx k v hv2 with h1 | ⟨h1, l, h2, h3⟩
    · exact .inl h1
    · exact .inr ⟨h1, l, by show cpAt (s.x.cps ++ [none]) x = some l; rw [cpAt_push]; exact h2, h3⟩
theorem InvQ.step (h : InvQ s) (hl : s.os.length < 900) (d : Dd) : InvQ (pstep s d).1 := by
  unfold pstep
  split
  · exact h.work
  · refine step_keepR pKd InvQ s d h h.fine (fun v u => h.fld) (fun r v _ _ hv _ => h.set hv) (fun i k u hi _ hk hu _ => h.put hi hk hu) ?_ ?_
    · intro n hn he
      unfold pKd at he ⊢
      simp only at he ⊢
      split at he
      · rename_i h1; rw [if_pos h1]; exact h
      · cases he
    · intro n o r hn _ _ he
      unfold pKd at he ⊢
      simp only at he ⊢
      split at he
      · cases he
      · rename_i h1
        rw [if_neg h1]
        have he := Option.some.inj he
        subst he
        exact h.new hl hn r.toNat
/-- A work: the objects stay, or all are exchanged. -/
theorem InvQ.workCases (h : InvQ s) : ((workP s).os = s.os ∧ (workP s).x.times = s.x.times ∧ (workP s).x.row = s.x.row) ∨
    ((∀ i, RchM s.regs s.os i → i ∈ s.x.made) ∧ (workP s).os = killed s.os s.x.made ∧ (workP s).x.times = s.x.times + 1 ∧ (workP s).x.row = s.x.made ∧ (workP s).x.made = [] ∧ (workP s).x.log = []) := by
  unfold workP
  split
  · split
    · exact .inl ⟨rfl, rfl, rfl⟩
    · exact .inl ⟨rfl, rfl, rfl⟩
  · rename_i hlog
    split
    · exact .inl ⟨rfl, rfl, rfl⟩
    · rename_i hr
      split
      · exact .inl ⟨rfl, rfl, rfl⟩
      · rename_i hf
        exact .inr ⟨fun i hi => h.closed hlog hr hf hi, h.exch hlog hf, rfl, rfl, rfl, rfl⟩
theorem workP_regs (s : Sm Px) : (workP s).regs = s.regs := by
  unfold workP
  split
  · split <;> rfl
  · split
    · rfl
    · split <;> rfl
theorem InvQ.workKin (h : InvQ s) : Kin (bare (workP s)) (bare s) := by
  rcases h.workCases with ⟨h1, _, _⟩ | ⟨h1, h2, _⟩
  · have : bare (workP s) = bare s := by unfold bare; rw [workP_regs, h1]
    rw [this]; exact Kin.refl _
  · have : bare (workP s) = ⟨s.regs, killed s.os s.x.made, ()⟩ := by unfold bare; rw [workP_regs, h2]
    rw [this]
    exact kill_kin fun i hi => ⟨h1 i hi, (h.led hi).1⟩
theorem InvQ.tells (h : InvQ s) (d : Dd) : Tells pstep (wB [8]) s d := by
  by_cases h8 : d.kind = 8
  · have e : (pstep s d).1 = workP s := by unfold pstep; rw [if_pos h8]
    refine ⟨fun _ => by rw [e]; exact h.workKin, fun hw => ?_⟩
    rw [h8] at hw; cases hw
  · have e : pstep s d = pKd.step s d := by unfold pstep; rw [if_neg h8]
    have hW : wB [8] d.kind = false := by unfold wB; simp [h8]
    have hT := kd_tells pKd (wB [8]) s d h.fine hW (fun v u => h.fld) (fun r v _ _ _ _ => Kin.refl _) (fun i k u _ _ _ _ _ => Kin.refl _) ?_ ?_
    · refine ⟨fun ho => ?_, fun hw h6 => ?_⟩
      · rw [e] at ho ⊢; exact hT.own ho
      · rw [e] at h6 ⊢; exact hT.pure_ hw h6
    · intro n hn he
      unfold pKd at he ⊢
      simp only at he ⊢
      split at he
      · rename_i h1; rw [if_pos h1]; exact Kin.refl _
      · cases he
    · intro n o r hn _ _ he
      unfold pKd at he ⊢
      simp only at he ⊢
      split at he
      · cases he
      · rename_i h1
        rw [if_neg h1]
        have he := Option.some.inj he
        subst he
        exact Kin.refl _
theorem InvQ.step_len (h : InvQ s) (d : Dd) : (pstep s d).1.os.length ≤ s.os.length + 1 := by
  have := (h.tells d).len rfl
  rw [this]; split <;> omega
theorem workP_log (s : Sm Px) : (workP s).x.log.length ≤ s.x.log.length := by
  unfold workP
  split
  · rename_i h
    rw [h]
    split
    · show List.length _ ≤ _; simp
    · show List.length _ ≤ _; simp
  · rename_i h
    split
    · show s.x.log.length ≤ _; exact Nat.le_refl _
    · split
      · show s.x.log.length ≤ _; exact Nat.le_refl _
      · exact Nat.zero_le _
/-- How many changes wait, how often all were exchanged: at most one more. -/
theorem InvQ.step_more (h : InvQ s) (d : Dd) : ((pstep s d).1.x.log.length ≤ s.x.log.length + 1) ∧ s.x.times ≤ (pstep s d).1.x.times ∧ (pstep s d).1.x.times ≤ s.x.times + 1 := by
  unfold pstep
  split
  · refine ⟨Nat.le_trans (workP_log s) (Nat.le_succ _), ?_⟩
    show s.x.times ≤ (workP s).x.times ∧ (workP s).x.times ≤ s.x.times + 1
    rcases h.workCases with ⟨_, h1, _⟩ | ⟨_, _, h1, _⟩
    · rw [h1]; omega
    · rw [h1]; omega
  · have hid : s.x.log.length ≤ s.x.log.length + 1 ∧ s.x.times ≤ s.x.times ∧ s.x.times ≤ s.x.times + 1 := ⟨Nat.le_succ _, Int.le_refl _, by omega⟩
    refine step_keep pKd (fun t => t.x.log.length ≤ s.x.log.length + 1 ∧ s.x.times ≤ t.x.times ∧ t.x.times ≤ s.x.times + 1) s d hid h.fine (fun v u => h.fld) (fun _ _ _ _ _ => hid) (fun i k u _ _ _ => ⟨?_, hid.2⟩) ?_ ?_
    · show (s.x.log ++ [(i, k)]).length ≤ _
      simp
    · intro n hn he
      unfold pKd
      simp only
      split <;> exact hid
    · intro n o r hn _ _ he
      unfold pKd Kd.set
      simp only
      split <;> exact hid
end
def startP (g : G) : Sm Px := ⟨firstR g.roots, g.objs.map some, ⟨thereL (g.objs.map some) g.objs.length, noCps g.objs.length, [], 0, [], 0⟩⟩
theorem startP_inv {g : G} (hG : Good g) : InvQ (startP g) := by
  have hI := startI_inv hG
  have hl : (startI g).os.length = g.objs.length := by simp [startI]
  refine ⟨hI.fine, hI.room, fun i l hl' v hv hr => ?_, rising_nodup (thereL_rising _ _), fun x => ?_, ?_, Nat.le_refl _, fun p hp => (by cases hp), fun j x hj => (by cases hj)⟩
  · have hlv := lives_nat (os := (startI g).os) hl'
    have := (hI.okf hlv (u := v) (by rw [show objAt (startI g).os (i : Int) = l from objAt_nat hl']; exact hv)).1 hr
    exact this
  · show x ∈ thereL (startI g).os g.objs.length ↔ _
    rw [← hl, mem_thereL (Nat.le_refl _)]
    exact ⟨fun h => h.1, fun h => ⟨h, by
      have h1 : x.toNat < (startI g).os.length := h.lt
      have h2 := h.1
      omega⟩⟩
  · have := CpI.no (startI g).os
    rw [hl] at this
    exact this
theorem runsP_inv {g : G} (hG : Good g) : ∀ (k : Nat) (ds : List Dd), k ≤ ds.length → k ≤ 100 → InvQ (runs pstep (startP g) (ds.take k)).1 ∧ (runs pstep (startP g) (ds.take k)).1.os.length ≤ 24 + k ∧ (runs pstep (startP g) (ds.take k)).1.x.log.length ≤ k ∧ 0 ≤ (runs pstep (startP g) (ds.take k)).1.x.times ∧ (runs pstep (startP g) (ds.take k)).1.x.times ≤ k := by
  intro k
  induction k with
  | zero =>
    intro ds _ _
    rw [List.take_zero]
    refine ⟨startP_inv hG, ?_, Nat.le_refl _, Int.le_refl _, Int.le_refl _⟩
    show (g.objs.map some).length ≤ 24 + 0
    have := hG.objs
    simp; omega
  | succ k ih =>
    intro ds hk h100
    obtain ⟨h1, h2, h3, h4, h5⟩ := ih ds (by omega) (by omega)
    obtain ⟨d, hd⟩ : ∃ d, ds[k]? = some d := ⟨ds[k]'(by omega), List.getElem?_eq_getElem (by omega)⟩
    rw [runs_take _ _ hd]
    have h6 := h1.step_len d
    obtain ⟨h7, h8, h9⟩ := h1.step_more d
    exact ⟨h1.step (by omega) d, by show (pstep _ _).1.os.length ≤ _; omega, by show (pstep _ _).1.x.log.length ≤ _; omega, by show 0 ≤ (pstep _ _).1.x.times; omega, by show (pstep _ _).1.x.times ≤ _; omega⟩
section
variable {g : G} (hG : Good g) {ds : List Dd} (hn : ds.length ≤ 100)
include hG hn
theorem runsP_tells : ∀ k d, ds[k]? = some d → Tells pstep (wB [8]) (runs pstep (startP g) (ds.take k)).1 d := by
  intro k d hd
  have hk := (List.getElem?_eq_some_iff.1 hd).1
  exact (runsP_inv hG k ds (by omega) (by omega)).1.tells d
theorem rep_told : ∃ t, runs iKd.step (startI g) ((toldF (wB [8]) ds (runs pstep (startP g) ds).2).map Prod.fst) = (t, (toldF (wB [8]) ds (runs pstep (startP g) ds).2).map Prod.snd) ∧ Kin (bare (runs pstep (startP g) ds).1) t ∧ InvI t := by
  have h := told_sim pstep (wB [8]) (startP g) (startI g) (Kin.refl _) (startI_inv hG) ds (by
    have : (startI g).os.length = g.objs.length := by simp [startI]
    have := hG.objs; omega) (runsP_tells hG hn) ds.length (Nat.le_refl _)
  rw [List.take_length] at h
  obtain ⟨t, h1, h2, h3, _⟩ := h
  exact ⟨t, h1, h2, h3⟩
theorem runsP_times (n : Nat) : ∀ j, n + j ≤ ds.length → (runs pstep (startP g) (ds.take n)).1.x.times ≤ (runs pstep (startP g) (ds.take (n + j))).1.x.times := by
  intro j
  induction j with
  | zero => intro _; exact Int.le_refl _
  | succ j ih =>
    intro hj
    obtain ⟨d, hd⟩ : ∃ d, ds[n + j]? = some d := ⟨ds[n + j]'(by omega), List.getElem?_eq_getElem (by omega)⟩
    rw [← Nat.add_assoc, runs_take _ _ hd]
    have h1 := ((runsP_inv hG (n + j) ds (by omega) (by omega)).1.step_more d).2.1
    exact Int.le_trans (ih (by omega)) h1
end
theorem InvQ.rowPerm {s : Sm Px} (h : InvQ s) : s.x.row.Perm (thereL s.os s.os.length) := by
  refine (List.perm_ext_iff_of_nodup h.rown (rising_nodup (thereL_rising _ _))).2 fun x => ?_
  rw [h.row, mem_thereL (Nat.le_refl _)]
  exact ⟨fun h => ⟨h, by have := h.lt; have := h.1; omega⟩, fun h => h.1⟩
theorem InvQ.madeLe {s : Sm Px} (h : InvQ s) : s.x.made.length ≤ s.x.row.length := nodup_sub_le _ _ h.cp.nodup fun x hx => (h.row x).2 (h.cp.live x hx)
theorem InvQ.rowLe {s : Sm Px} (h : InvQ s) : s.x.row.length ≤ s.os.length := by
  rw [h.rowPerm.length_eq]; exact thereL_len _ _
/-! ### With nothing else done -/
/-- What is left to do in a round. -/
def phi (s : Sm Px) : Nat := s.x.log.length + (s.regs.filter (needs s.x.cps)).length + (s.x.row.length - s.x.filled)
/-- Nothing waits, and only what can be come to has copies. -/
structure Pure (s : Sm Px) : Prop where
  log : s.x.log = []
  made : ∀ x ∈ s.x.made, RchM s.regs s.os x
def Tight (s : Sm Px) : Prop := ∀ x, Lives s.os x → RchM s.regs s.os x
theorem filter_le {l : List V} {p q : V → Bool} (h : ∀ v ∈ l, q v = true → p v = true) : (l.filter q).length ≤ (l.filter p).length := by
  induction l with
  | nil => exact Nat.le_refl _
  | cons v l ih =>
    have ih := ih fun u hu => h u (List.mem_cons_of_mem _ hu)
    have hv := h v (List.mem_cons_self ..)
    by_cases hq : q v = true
    · rw [List.filter_cons_of_pos hq, List.filter_cons_of_pos (hv hq)]
      simp; exact ih
    · rw [List.filter_cons_of_neg hq]
      by_cases hp : p v = true
      · rw [List.filter_cons_of_pos hp]; simp; omega
      · rw [List.filter_cons_of_neg hp]; exact ih
theorem filter_lt {l : List V} {p q : V → Bool} (h : ∀ v ∈ l, q v = true → p v = true) {u : V} (hu : u ∈ l) (h1 : p u = true) (h2 : q u = false) : (l.filter q).length + 1 ≤ (l.filter p).length := by
  induction l with
  | nil => cases hu
  | cons v l ih =>
    have hv := h v (List.mem_cons_self ..)
    have hl := fun u hu => h u (List.mem_cons_of_mem _ hu)
    rcases List.mem_cons.1 hu with rfl | hu
    · rw [List.filter_cons_of_neg (by rw [h2]; decide), List.filter_cons_of_pos h1]
      have := filter_le hl
      simp; omega
    · have ih := ih hl hu
      by_cases hq : q v = true
      · rw [List.filter_cons_of_pos hq, List.filter_cons_of_pos (hv hq)]
        simp; omega
      · rw [List.filter_cons_of_neg hq]
        by_cases hp : p v = true
        · rw [List.filter_cons_of_pos hp]; simp; omega
        · rw [List.filter_cons_of_neg hp]; exact ih
theorem needs_le {p q : Cm} (h : CpLe p q) {v : V} (h0 : v.ref = true → 0 ≤ v.n) (hn : needs q.1 v = true) : needs p.1 v = true := by
  unfold needs at hn ⊢
  rw [Bool.and_eq_true] at hn ⊢
  refine ⟨hn.1, ?_⟩
  cases hc : cpAt p.1 v.n with
  | none => rfl
  | some l =>
    have := h.cp v.n l (h0 hn.1) hc
    have h2 := hn.2
    cases hd : cpAt q.1 v.n with
    | none => rw [hd] at this; cases this
    | some _ => rw [hd] at h2; cases h2
section
variable {s : Sm Px}
theorem InvQ.work_phi (h : InvQ s) : (phi (workP s) + 1 ≤ phi s ∧ (Pure s → Pure (workP s)) ∧ (workP s).os = s.os ∧ (workP s).x.times = s.x.times ∧ (workP s).x.row = s.x.row) ∨
    ((∀ i, RchM s.regs s.os i → i ∈ s.x.made) ∧ (workP s).os = killed s.os s.x.made ∧ (workP s).x.times = s.x.times + 1 ∧ (workP s).x.row = s.x.made ∧ (workP s).x.made = [] ∧ (workP s).x.log = []) := by
  have hr0 : ∀ v ∈ s.regs, v.ref = true → 0 ≤ v.n := fun v hv hr => ((h.fine.regs v hv).1 hr).1
  have hml := h.madeLe
  have hfil := h.fil
  unfold workP
  split
  · rename_i o k l hlog
    left
    split
    · rename_i hs
      have hl0 := h.log (o, k) (by rw [hlog]; exact List.mem_cons_self ..)
      have ho : o ∈ s.x.made := (h.cp.iff o).2 ⟨hl0.1.1, hs⟩
      obtain ⟨b1, b2, b3, b4⟩ := h.cp.bring h.clo ho k
      refine ⟨?_, fun hp => ?_, rfl, rfl, rfl⟩
      · have := filter_le (l := s.regs) (p := needs s.x.cps) (q := needs (bring s.os (s.x.cps, s.x.made) o k).1) (fun v hv hn => needs_le b2 (hr0 v hv) hn)
        unfold phi
        rw [hlog]
        show l.length + _ + (s.x.row.length - s.x.filled) + 1 ≤ _
        simp only [List.length_cons]
        omega
      · rw [hp.log] at hlog; cases hlog
    · refine ⟨?_, fun hp => ?_, rfl, rfl, rfl⟩
      · unfold phi
        rw [hlog]
        show l.length + _ + (s.x.row.length - s.x.filled) + 1 ≤ _
        simp only [List.length_cons]
        omega
      · rw [hp.log] at hlog; cases hlog
  · rename_i hlog
    split
    · rename_i v hv
      left
      have hvm := List.mem_of_find?_eq_some hv
      have hvn := List.find?_some hv
      have hvr : v.ref = true := by unfold needs at hvn; rw [Bool.and_eq_true] at hvn; exact hvn.1
      obtain ⟨c1, c2, c3, c4⟩ := h.cp.copied (h.fine.regs v hvm).1
      refine ⟨?_, fun hp => ⟨hp.log, fun x hx => ?_⟩, rfl, rfl, rfl⟩
      · have h0 := hr0 v hvm hvr
        have h1 := (c1.iff v.n).1 (c3 hvr)
        have hnn : needs (copied s.os (s.x.cps, s.x.made) v).1 v = false := by
          unfold needs
          rw [hvr]
          cases hc : cpAt (copied s.os (s.x.cps, s.x.made) v).1 v.n with
          | none => rw [hc] at h1; cases h1.2
          | some _ => rfl
        have := filter_lt (l := s.regs) (p := needs s.x.cps) (q := needs (copied s.os (s.x.cps, s.x.made) v).1) (fun u hu hn => needs_le c2 (hr0 u hu) hn) hvm hvn hnn
        unfold phi
        show s.x.log.length + (s.regs.filter (needs (copied s.os (s.x.cps, s.x.made) v).1)).length + (s.x.row.length - s.x.filled) + 1 ≤ _
        omega
      · have hx2 : x ∈ (copied s.os (s.x.cps, s.x.made) v).2 := hx
        unfold copied at hx2
        rw [if_pos hvn] at hx2
        rcases List.mem_append.1 (show x ∈ s.x.made ++ [v.n] from hx2) with hx2 | hx2
        · exact hp.made x hx2
        · rw [List.mem_singleton] at hx2; subst hx2; exact .root hvm hvr
    · rename_i hr
      split
      · rename_i o ho
        left
        have hom : o ∈ s.x.made := List.mem_of_getElem? ho
        obtain ⟨b1, b2, b3, b4⟩ := h.cp.bringN h.clo hom (objAt s.os o).length
        have hfl := (List.getElem?_eq_some_iff.1 ho).1
        refine ⟨?_, fun hp => ⟨hp.log, fun x hx => ?_⟩, rfl, rfl, rfl⟩
        · have := filter_le (l := s.regs) (p := needs s.x.cps) (q := needs (bringN s.os (s.x.cps, s.x.made) o (objAt s.os o).length).1) (fun v hv hn => needs_le b2 (hr0 v hv) hn)
          unfold phi
          show s.x.log.length + (s.regs.filter (needs (bringN s.os (s.x.cps, s.x.made) o (objAt s.os o).length).1)).length + (s.x.row.length - (s.x.filled + 1)) + 1 ≤ _
          omega
        · have hor := hp.made o hom
          have hob := (h.cp.live o hom).obj
          have key : ∀ k x, x ∈ (bringN s.os (s.x.cps, s.x.made) o k).2 → RchM s.regs s.os x := by
            intro k
            induction k with
            | zero => intro x hx; exact hp.made x hx
            | succ k ih =>
              intro x hx
              have hx2 : x ∈ (copied s.os (bringN s.os (s.x.cps, s.x.made) o k) ((objAt s.os o).getD k ⟨false, 0⟩)).2 := hx
              unfold copied at hx2
              split at hx2
              · rename_i hn
                rcases List.mem_append.1 hx2 with hx2 | hx2
                · exact ih x hx2
                · rw [List.mem_singleton] at hx2
                  unfold needs at hn
                  rw [Bool.and_eq_true] at hn
                  have hvr := hn.1
                  rw [List.getD_eq_getElem?_getD] at hvr hx2
                  cases hg : (objAt s.os o)[k]? with
                  | none => rw [hg] at hvr; cases hvr
                  | some u =>
                    rw [hg] at hvr hx2
                    simp only [Option.getD_some] at hvr hx2
                    subst hx2
                    exact .step hor hob (List.mem_of_getElem? hg) hvr
              · exact ih x hx2
          exact key _ x hx
      · rename_i hf
        exact .inr ⟨fun i hi => h.closed hlog hr hf hi, h.exch hlog hf, rfl, rfl, rfl, rfl⟩
def iterP : Nat → Sm Px → Sm Px
  | 0, s => s
  | m + 1, s => iterP m (workP s)
theorem iterP_keep (m : Nat) : ∀ {s : Sm Px}, InvQ s → InvQ (iterP m s) ∧ s.x.times ≤ (iterP m s).x.times ∧ (iterP m s).x.row.length ≤ s.x.row.length ∧ (Pure s → Pure (iterP m s)) ∧ (Pure s → Tight s → Tight (iterP m s)) := by
  induction m with
  | zero => intro s h; exact ⟨h, Int.le_refl _, Nat.le_refl _, fun h => h, fun _ h => h⟩
  | succ m ih =>
    intro s h
    obtain ⟨i1, i2, i3, i4, i5⟩ := ih h.work
    rcases h.work_phi with ⟨_, h1, h2, h3, h4⟩ | ⟨h1, h2, h3, h4, h5, h6⟩
    · refine ⟨i1, by rw [← h3]; exact i2, by rw [← h4]; exact i3, fun hp => i4 (h1 hp), fun hp ht => i5 (h1 hp) (fun x hx => ?_)⟩
      rw [h2] at hx ⊢
      rw [workP_regs]; exact ht x hx
    · have hp2 : Pure (workP s) := ⟨h6, fun x hx => by rw [h5] at hx; cases hx⟩
      refine ⟨i1, by rw [h3] at i2; exact Int.le_trans (by omega) i2, Nat.le_trans (by rw [h4] at i3; exact i3) h.madeLe, fun _ => i4 hp2, fun hp _ => i5 hp2 (fun x hx => ?_)⟩
      rw [h2] at hx ⊢
      rw [workP_regs]
      have hx2 := (killed_lives.1 hx).2
      exact (kill_rch fun i hi => ⟨h1 i hi, (h.led hi).1⟩).2 (hp.made x hx2)
/-- With as many works as are left to do, and one, all are exchanged. -/
theorem rounds_once (m : Nat) : ∀ {s : Sm Px}, InvQ s → phi s < m → s.x.times < (iterP m s).x.times ∧ Pure (iterP m s) ∧ (Pure s → Tight (iterP m s)) := by
  induction m with
  | zero => intro s _ h; omega
  | succ m ih =>
    intro s h hm
    have hk := iterP_keep m h.work
    rcases h.work_phi with ⟨h0, h1, h2, h3, h4⟩ | ⟨h1, h2, h3, h4, h5, h6⟩
    · obtain ⟨j1, j2, j3⟩ := ih h.work (by omega)
      exact ⟨by rw [← h3]; exact j1, j2, fun hp => j3 (h1 hp)⟩
    · have hp2 : Pure (workP s) := ⟨h6, fun x hx => by rw [h5] at hx; cases hx⟩
      refine ⟨?_, hk.2.2.2.1 hp2, fun hp => hk.2.2.2.2 hp2 (fun x hx => ?_)⟩
      · have := hk.2.1
        rw [h3] at this
        exact Int.lt_of_lt_of_le (by omega) this
      · rw [h2] at hx ⊢
        rw [workP_regs]
        have hx2 := (killed_lives.1 hx).2
        exact (kill_rch fun i hi => ⟨h1 i hi, (h.led hi).1⟩).2 (hp.made x hx2)
theorem phi_le (h : InvQ s) : phi s ≤ s.x.log.length + 8 + s.x.row.length := by
  unfold phi
  have h1 : (s.regs.filter (needs s.x.cps)).length ≤ s.regs.length := List.length_filter_le _ _
  rw [h.fine.regs8] at h1
  omega
end
theorem runs_works (m : Nat) (s : Sm Px) (d : Dd) (hd : d.kind = 8) : (runs pstep s (List.replicate m d)).1 = iterP m s := by
  induction m generalizing s with
  | zero => rfl
  | succ m ih =>
    rw [List.replicate_succ, show d :: List.replicate m d = [d] ++ List.replicate m d from rfl, runs_append]
    show (runs pstep (runs pstep s [d]).1 (List.replicate m d)).1 = _
    have e : (runs pstep s [d]).1 = workP s := by
      show (pstep s d).1 = _
      unfold pstep; rw [if_pos hd]
    rw [e, ih]; rfl
end Go.Proofs.Ytmmcjjklmcfegaa
