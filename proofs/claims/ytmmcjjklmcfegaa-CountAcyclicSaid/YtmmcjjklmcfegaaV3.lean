/- Counting is told from the memory without end by nothing but what has no room. Plain. -/
import Derived.Test.YtmmcjjklmcfegaaV0
import Derived.Test.YtmmcjjklmcfegaaU1
import Derived.Test.YtmmcjjklmcfegaaBase10
namespace Go.Proofs.Ytmmcjjklmcfegaa

/-- If some went, and what is there has all to which it leads, nobody can tell. -/
theorem kin_shr {regs : List V} {os os' : Os} (hl : os'.length = os.length) (hs : ∀ (i : Nat) (l : List V), os'[i]? = some (some l) → os[i]? = some (some l)) (hr : ∀ v ∈ regs, v.ref = true → Lives os' v.n)
    (hf : ∀ (i : Nat) (l : List V), os'[i]? = some (some l) → ∀ v ∈ l, v.ref = true → Lives os' v.n) : Kin ⟨regs, os', ()⟩ ⟨regs, os, ()⟩ := by
  refine ⟨rfl, hl, fun i hi => ?_⟩
  have hli : Lives os' i := hi.least (P := Lives os') hr (fun j l hj hl v hv hvr => by
    obtain ⟨_, l', h'⟩ := hj
    have := hs _ _ h'
    change os[j.toNat]? = _ at hl
    rw [hl] at this
    cases this
    exact hf _ _ h' v hv hvr)
  obtain ⟨_, l', h'⟩ := hli
  exact h'.trans (hs _ _ h').symm
theorem kin_end {rg : List V} {c t : Cst} (h : DnEnd rg [] c t) : Kin ⟨rg, t.os, ()⟩ ⟨rg, c.os, ()⟩ := kin_shr h.len h.shr (fun v hv hr => h.inv.held v (List.mem_append_left _ hv) hr) h.inv.flds
theorem InvK.tells {room : Int} {s : Sm Cx} (h : InvK s) (d : Dd) : Tells (cKd room).step (wB []) s d := by
  refine kd_tells (cKd room) (wB []) s d h.fine rfl (fun v u => h.fld) ?_ ?_ ?_ ?_
  · intro r v h0 h1 hv _
    have hr : r.toNat < s.regs.length := by rw [h.fine.regs8]; omega
    exact kin_end (dnF_end (p := [s.regs.getD r.toNat ⟨false, 0⟩]) (q := []) (h.inv.hold hr hv.1)).2
  · intro i k u hi _ hk hu _
    exact kin_end (dnF_end (p := [(objAt s.os i).getD k ⟨false, 0⟩]) (q := []) (h.inv.put hi hk hu.1)).2
  · intro n hn he
    unfold cKd at he ⊢
    simp only at he ⊢
    split at he
    · rename_i hroom; rw [if_pos hroom]; exact Kin.refl _
    · cases he
  · intro n o r hn h0 h1 he
    unfold cKd at he ⊢
    simp only at he ⊢
    split at he
    · cases he
    · rename_i hroom
      rw [if_neg hroom]
      have he := Option.some.inj he
      subst he
      have hr : r.toNat < s.regs.length := by rw [h.fine.regs8]; omega
      exact kin_end (dnF_end (p := [s.regs.getD r.toNat ⟨false, 0⟩]) (q := []) ((h.inv.new n).hold (u := ⟨true, (s.os.length : Int)⟩) hr fun _ => lives_new s.os (zerosV n))).2
theorem startC_kin {g : G} (hG : Good g) : Kin (bare (startC g)) (startI g) := by
  have hlen : (startC0 g).os.length = g.objs.length := by simp [startC0]
  exact kin_end (zaps_end (start_inv hG) g.objs.length (by rw [hlen]; exact Nat.le_refl _)).1
theorem runsC_tells {g : G} (hG : Good g) (room : Int) {ds : List Dd} (hn : ds.length ≤ 100) : ∀ k d, ds[k]? = some d → Tells (cKd room).step (wB []) (runs (cKd room).step (startC g) (ds.take k)).1 d := by
  intro k d hd
  have hk := (List.getElem?_eq_some_iff.1 hd).1
  exact (runsC_inv hG room k ds (by omega) (by omega)).1.tells d
/-- What who counts tells, the memory without end tells. -/
theorem count_told {g : G} (hG : Good g) (room : Int) {ds : List Dd} (hn : ds.length ≤ 100) :
    ∃ t, runs iKd.step (startI g) ((toldF (wB []) ds (runs (cKd room).step (startC g) ds).2).map Prod.fst) = (t, (toldF (wB []) ds (runs (cKd room).step (startC g) ds).2).map Prod.snd) ∧ Kin (bare (runs (cKd room).step (startC g) ds).1) t ∧ InvI t := by
  have h := told_sim (cKd room).step (wB []) (startC g) (startI g) (startC_kin hG) (startI_inv hG) ds (by
    have : (startI g).os.length = g.objs.length := by simp [startI]
    have := hG.objs; omega) (runsC_tells hG room hn) ds.length (Nat.le_refl _)
  rw [List.take_length] at h
  obtain ⟨t, h1, h2, h3, _⟩ := h
  exact ⟨t, h1, h2, h3⟩
theorem InvK.step_gone {room : Int} {s : Sm Cx} (h : InvK s) (d : Dd) : s.x.gone <+: ((cKd room).step s d).1.x.gone := by
  refine step_keep (cKd room) (fun t => s.x.gone <+: t.x.gone) s d (List.prefix_refl _) h.fine (fun v u => h.fld) ?_ ?_ ?_ ?_
  · intro r v h0 h1 hv
    have hr : r.toNat < s.regs.length := by rw [h.fine.regs8]; omega
    obtain ⟨n, hn, _⟩ := (dnF_end (p := [s.regs.getD r.toNat ⟨false, 0⟩]) (q := []) (h.inv.hold hr hv.1)).2.gone
    exact ⟨n, hn.symm⟩
  · intro i k u hi hk hu
    obtain ⟨n, hn, _⟩ := (dnF_end (p := [(objAt s.os i).getD k ⟨false, 0⟩]) (q := []) (h.inv.put hi hk hu.1)).2.gone
    exact ⟨n, hn.symm⟩
  · intro n hn he
    unfold cKd at he ⊢
    simp only at he ⊢
    split at he
    · rename_i hroom; rw [if_pos hroom]; exact List.prefix_refl _
    · cases he
  · intro n o r hn h0 h1 he
    unfold cKd at he ⊢
    simp only at he ⊢
    split at he
    · cases he
    · rename_i hroom
      rw [if_neg hroom]
      have he := Option.some.inj he
      subst he
      have hr : r.toNat < s.regs.length := by rw [h.fine.regs8]; omega
      obtain ⟨n', hn', _⟩ := (dnF_end (p := [s.regs.getD r.toNat ⟨false, 0⟩]) (q := []) ((h.inv.new n).hold (u := ⟨true, (s.os.length : Int)⟩) hr fun _ => lives_new s.os (zerosV n))).2.gone
      exact ⟨n', hn'.symm⟩
theorem runsC_gone {g : G} (hG : Good g) (room : Int) {ds : List Dd} (hn : ds.length ≤ 100) (n : Nat) : ∀ j, n + j ≤ ds.length → (runs (cKd room).step (startC g) (ds.take n)).1.x.gone <+: (runs (cKd room).step (startC g) (ds.take (n + j))).1.x.gone := by
  intro j
  induction j with
  | zero => intro _; exact List.prefix_refl _
  | succ j ih =>
    intro hj
    obtain ⟨d, hd⟩ : ∃ d, ds[n + j]? = some d := ⟨ds[n + j]'(by omega), List.getElem?_eq_getElem (by omega)⟩
    rw [← Nat.add_assoc, runs_take _ _ hd]
    exact (ih (by omega)).trans ((runsC_inv hG room (n + j) ds (by omega) (by omega)).1.step_gone d)
theorem gone_front {g : G} (hG : Good g) (room : Int) {ds : List Dd} (hn : ds.length ≤ 100) {n : Nat} (h : n ≤ ds.length) : (runs (cKd room).step (startC g) (ds.take n)).1.x.gone <+: (runs (cKd room).step (startC g) ds).1.x.gone := by
  have := runsC_gone hG room hn n (ds.length - n) (by omega)
  rwa [show n + (ds.length - n) = ds.length by omega, List.take_length] at this
end Go.Proofs.Ytmmcjjklmcfegaa
