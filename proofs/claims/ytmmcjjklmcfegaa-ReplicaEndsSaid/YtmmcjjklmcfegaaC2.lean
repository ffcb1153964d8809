/- Colours: runs; what is told. Plain. -/
import Derived.Test.YtmmcjjklmcfegaaC1
import Derived.Test.YtmmcjjklmcfegaaU1
import Derived.Test.YtmmcjjklmcfegaaU4
namespace Go.Proofs.Ytmmcjjklmcfegaa

/-- What each way of a step keeps, a step keeps; what is taken can be come to. -/
theorem step_keepR {X : Type} (K : Kd X) (J : Sm X → Prop) (s : Sm X) (d : Dd) (hIJ : J s) (hF : Fine s.regs s.os)
    (fld : ∀ v u, v ∈ s.regs → v.ref = true → u ∈ objAt s.os v.n → OkV s.os u)
    (hset : ∀ (r : Int) v, 0 ≤ r → r < 8 → OkV s.os v → (v.ref = true → RchM s.regs s.os v.n) → J (K.set s r v))
    (hput : ∀ i (k : Nat) u, Lives s.os i → RchM s.regs s.os i → k < (objAt s.os i).length → OkV s.os u → (u.ref = true → RchM s.regs s.os u.n) → J (K.put s i k u))
    (hnewN : ∀ n : Nat, n ≤ 4 → (K.new s n).2 = none → J (K.new s n).1)
    (hnewS : ∀ (n : Nat) o (r : Int), n ≤ 4 → 0 ≤ r → r < 8 → (K.new s n).2 = some o → J (K.set (K.new s n).1 r ⟨true, o⟩)) : J (K.step s d).1 := by
  unfold Kd.step
  split
  · exact hIJ
  · rename_i hw
    have hw0 : wrongC d = 0 := Classical.byContradiction hw
    obtain ⟨k1, k7, hto, hfr, hn, hn2⟩ := wrong_zero hw0
    split
    · rename_i e1
      have hn4 := hn e1
      have ht := hto (by omega)
      have a1 := hnewN d.n.toNat (by omega)
      have a2 := hnewS d.n.toNat
      split
      · rename_i t ht'
        rw [ht'] at a1; exact a1 rfl
      · rename_i t o ht'
        have := a2 o d.to_ (by omega) ht.1 ht.2 (by rw [ht'])
        rw [ht'] at this; exact this
    · split
      · rename_i e2
        have ht := hto (by omega)
        exact hset _ _ ht.1 ht.2 ⟨(fun h => by cases h), fun _ => hn2 e2⟩ (fun h => by cases h)
      · have hf := hfr (by omega)
        have hokf := hF.reg hf.1 hf.2
        have hmf := mem_reg hF.regs8 hf.1 hf.2
        have hrf : (reg s.regs d.frm).ref = true → RchM s.regs s.os (reg s.regs d.frm).n := fun hr => .root hmf hr
        split
        · have ht := hto (by omega)
          exact hset _ _ ht.1 ht.2 hokf hrf
        · split
          · have ht := hto (by omega)
            have hmt := mem_reg hF.regs8 ht.1 ht.2
            split
            · exact hIJ
            · rename_i hfc
              have hfc0 : fieldC s.os (Proofs.Ytmmcjjklmcfegaa.reg s.regs d.to_) d.at_ = 0 := Classical.byContradiction hfc
              obtain ⟨f1, f2, f3⟩ := field_zero hfc0
              exact hput _ _ _ ((hF.reg ht.1 ht.2).1 f1) (.root hmt f1) (by omega) hokf hrf
          · split
            · have ht := hto (by omega)
              split
              · exact hIJ
              · rename_i hfc
                have hfc0 : fieldC s.os (Proofs.Ytmmcjjklmcfegaa.reg s.regs d.frm) d.at_ = 0 := Classical.byContradiction hfc
                obtain ⟨f1, f2, f3⟩ := field_zero hfc0
                have hmm : (objAt s.os (Proofs.Ytmmcjjklmcfegaa.reg s.regs d.frm).n).getD d.at_.toNat ⟨false, 0⟩ ∈ objAt s.os (Proofs.Ytmmcjjklmcfegaa.reg s.regs d.frm).n := by
                  rw [List.getD_eq_getElem?_getD, List.getElem?_eq_getElem (by omega)]
                  exact List.getElem_mem _
                exact hset _ _ ht.1 ht.2 (fld _ _ hmf f1 hmm) (fun hr => .step (hrf f1) (hokf.1 f1).obj hmm hr)
            · split
              · exact hIJ
              · exact hIJ
theorem InvT.step {b : Int} (hb : b = 1 ∨ b = 2 ∨ b = 3) {s : Sm Tx} (h : InvT b s) (hl : s.os.length < 900) (d : Dd) : InvT b (tstep b s d).1 := by
  unfold tstep
  split
  · exact h.work
  · split
    · exact h.sweep
    · refine step_keepR (tKd b) (InvT b) s d h h.fine (fun v u => h.fld) (fun r v _ _ hv hr => h.set hv hr) (fun i k u hi hir hk hu hur => h.putT hb hi hir hk hu hur) ?_ ?_
      · intro n hn he
        unfold tKd at he ⊢
        simp only at he ⊢
        split at he
        · rename_i hc; rw [if_pos hc]; exact h
        · cases he
      · intro n o r hn _ _ he
        unfold tKd at he ⊢
        simp only at he ⊢
        split at he
        · cases he
        · rename_i hc
          rw [if_neg hc]
          have he := Option.some.inj he
          subst he
          exact h.newS hl hn r
theorem work_os (s : Sm Tx) : (workS s).1.regs = s.regs ∧ (workS s).1.os = s.os ∧ (workS s).1.x.gone = s.x.gone := by
  unfold workS
  split <;> exact ⟨rfl, rfl, rfl⟩
theorem sweep_os (s : Sm Tx) : (sweepS s).1.regs = s.regs ∧ (sweepS s).1.os.length = s.os.length ∧ s.x.gone <+: (sweepS s).1.x.gone := by
  unfold sweepS
  split
  · exact ⟨rfl, rfl, List.prefix_refl _⟩
  · exact ⟨rfl, kill_len _ _, List.prefix_append _ _⟩
theorem InvT.tells {b : Int} {s : Sm Tx} (h : InvT b s) (d : Dd) : Tells (tstep b) (wB [8, 9]) s d := by
  have hkw : Kin (bare (workS s).1) (bare s) := by
    obtain ⟨h1, h2, _⟩ := work_os s
    have : bare (workS s).1 = bare s := by unfold bare; rw [h1, h2]
    rw [this]; exact Kin.refl _
  have hks := sweep_kin h
  by_cases h8 : d.kind = 8
  · have e : (tstep b s d).1 = (workS s).1 := by unfold tstep; rw [if_pos h8]
    refine ⟨fun _ => by rw [e]; exact hkw, fun hw => ?_⟩
    rw [h8] at hw; cases hw
  · by_cases h9 : d.kind = 9
    · have e : (tstep b s d).1 = (sweepS s).1 := by unfold tstep; rw [if_neg h8, if_pos h9]
      refine ⟨fun _ => by rw [e]; exact hks, fun hw => ?_⟩
      rw [h9] at hw; cases hw
    · have e : tstep b s d = (tKd b).step s d := by unfold tstep; rw [if_neg h8, if_neg h9]
      have hW : wB [8, 9] d.kind = false := by unfold wB; simp [h8, h9]
      have hT := kd_tells (tKd b) (wB [8, 9]) s d h.fine hW (fun v u => h.fld) (fun r v _ _ _ _ => Kin.refl _) (fun i k u _ _ _ _ _ => Kin.refl _) ?_ ?_
      · refine ⟨fun ho => ?_, fun hw h6 => ?_⟩
        · rw [e] at ho ⊢; exact hT.own ho
        · rw [e] at h6 ⊢; exact hT.pure_ hw h6
      · intro n hn he
        unfold tKd at he ⊢
        simp only at he ⊢
        split at he
        · rename_i hc; rw [if_pos hc]; exact Kin.refl _
        · cases he
      · intro n o r hn _ _ he
        unfold tKd at he ⊢
        simp only at he ⊢
        split at he
        · cases he
        · rename_i hc
          rw [if_neg hc]
          have he := Option.some.inj he
          subst he
          exact Kin.refl _
theorem InvT.step_len {b : Int} {s : Sm Tx} (h : InvT b s) (d : Dd) : (tstep b s d).1.os.length ≤ s.os.length + 1 := by
  have := (h.tells d).len rfl
  rw [this]; split <;> omega
theorem InvT.step_gone {b : Int} {s : Sm Tx} (h : InvT b s) (d : Dd) : s.x.gone <+: (tstep b s d).1.x.gone := by
  unfold tstep
  split
  · show _ <+: (workS s).1.x.gone
    rw [(work_os s).2.2]; exact List.prefix_refl _
  · split
    · exact (sweep_os s).2.2
    · refine step_keep (tKd b) (fun t => s.x.gone <+: t.x.gone) s d (List.prefix_refl _) h.fine (fun v u => h.fld) (fun _ _ _ _ _ => List.prefix_refl _) (fun _ _ _ _ _ _ => List.prefix_refl _) ?_ ?_
      · intro n hn he
        unfold tKd
        simp only
        split <;> exact List.prefix_refl _
      · intro n o r hn _ _ he
        unfold tKd Kd.set
        simp only
        split <;> exact List.prefix_refl _
def startT (g : G) : Sm Tx := ⟨firstR g.roots, g.objs.map some, ⟨beginC g.objs.length (firstR g.roots), []⟩⟩
theorem startT_inv {g : G} (hG : Good g) (b : Int) : InvT b (startT g) := by
  have hI := startI_inv hG
  have hregR : ∀ v ∈ firstR g.roots, InR g.objs.length v := by
    intro v hv hr
    have h1 := (hI.fine.regs v hv).1 hr
    have h2 := h1.lt
    have h3 : (startI g).os.length = g.objs.length := by simp [startI]
    have := h1.1
    exact ⟨h1.1, by omega⟩
  have hat : ∀ j, 0 ≤ j → cAt (beginC g.objs.length (firstR g.roots)) j = if j ∈ targets (firstR g.roots) then 1 else 0 := fun j hj => beginC_at hregR hj
  have hno : ∀ (i : Nat), cAt (beginC g.objs.length (firstR g.roots)) (i : Int) ≠ 2 := by
    intro i h2
    rw [hat _ (by omega)] at h2
    split at h2 <;> cases h2
  refine ⟨hI.fine, ?_, hI.room, fun i hi => hI.rch_lives hi, beginC_hues _ _, ⟨fun _ => ⟨fun v hv hr => .inl ?_, fun i l v _ h2 _ _ => absurd h2 (hno i)⟩, fun _ i l v _ h2 _ _ => absurd h2 (hno i)⟩, List.nodup_nil, fun x => ?_⟩
  · show (beginC _ _).length = (g.objs.map some).length
    rw [beginC_len, List.length_map]
  · show cAt (beginC g.objs.length (firstR g.roots)) v.n ≠ 0
    have hv' : v ∈ firstR g.roots := hv
    rw [hat _ (hregR v hv hr).1, if_pos (mem_targets_iff'.2 ⟨v, hv', hr, rfl⟩)]
    decide
  · constructor
    · intro h; cases h
    · rintro ⟨h1, h2, h3⟩
      exact absurd (hI.lives (i := x) h1 h2) h3
theorem runsT_inv {g : G} (hG : Good g) {b : Int} (hb : b = 1 ∨ b = 2 ∨ b = 3) : ∀ (k : Nat) (ds : List Dd), k ≤ ds.length → k ≤ 100 → InvT b (runs (tstep b) (startT g) (ds.take k)).1 ∧ (runs (tstep b) (startT g) (ds.take k)).1.os.length ≤ 24 + k := by
  intro k
  induction k with
  | zero =>
    intro ds _ _
    rw [List.take_zero]
    refine ⟨startT_inv hG b, ?_⟩
    show (g.objs.map some).length ≤ 24 + 0
    have := hG.objs
    simp; omega
  | succ k ih =>
    intro ds hk h100
    obtain ⟨h1, h2⟩ := ih ds (by omega) (by omega)
    obtain ⟨d, hd⟩ : ∃ d, ds[k]? = some d := ⟨ds[k]'(by omega), List.getElem?_eq_getElem (by omega)⟩
    rw [runs_take _ _ hd]
    exact ⟨h1.step hb (by omega) d, Nat.le_trans (h1.step_len d) (by omega)⟩
section
variable {g : G} (hG : Good g) {b : Int} (hb : b = 1 ∨ b = 2 ∨ b = 3) {ds : List Dd} (hn : ds.length ≤ 100)
include hG hb hn
theorem runsT_tells : ∀ k d, ds[k]? = some d → Tells (tstep b) (wB [8, 9]) (runs (tstep b) (startT g) (ds.take k)).1 d := by
  intro k d hd
  have hk := (List.getElem?_eq_some_iff.1 hd).1
  exact (runsT_inv hG hb k ds (by omega) (by omega)).1.tells d
theorem tri_told : ∃ t, runs iKd.step (startI g) ((toldF (wB [8, 9]) ds (runs (tstep b) (startT g) ds).2).map Prod.fst) = (t, (toldF (wB [8, 9]) ds (runs (tstep b) (startT g) ds).2).map Prod.snd) ∧ Kin (bare (runs (tstep b) (startT g) ds).1) t ∧ InvI t := by
  have h := told_sim (tstep b) (wB [8, 9]) (startT g) (startI g) (Kin.refl _) (startI_inv hG) ds (by
    have : (startI g).os.length = g.objs.length := by simp [startI]
    have := hG.objs; omega) (runsT_tells hG hb hn) ds.length (Nat.le_refl _)
  rw [List.take_length] at h
  obtain ⟨t, h1, h2, h3, _⟩ := h
  exact ⟨t, h1, h2, h3⟩
theorem runsT_gone (n : Nat) : ∀ j, n + j ≤ ds.length → (runs (tstep b) (startT g) (ds.take n)).1.x.gone <+: (runs (tstep b) (startT g) (ds.take (n + j))).1.x.gone := by
  intro j
  induction j with
  | zero => intro _; exact List.prefix_refl _
  | succ j ih =>
    intro hj
    obtain ⟨d, hd⟩ : ∃ d, ds[n + j]? = some d := ⟨ds[n + j]'(by omega), List.getElem?_eq_getElem (by omega)⟩
    rw [← Nat.add_assoc, runs_take _ _ hd]
    exact (ih (by omega)).trans ((runsT_inv hG hb (n + j) ds (by omega) (by omega)).1.step_gone d)
theorem goneT_front {n : Nat} (h : n ≤ ds.length) : (runs (tstep b) (startT g) (ds.take n)).1.x.gone <+: (runs (tstep b) (startT g) ds).1.x.gone := by
  have := runsT_gone hG hb hn n (ds.length - n) (by omega)
  rwa [show n + (ds.length - n) = ds.length by omega, List.take_length] at this
end
end Go.Proofs.Ytmmcjjklmcfegaa
