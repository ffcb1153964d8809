/- Counting where nothing goes round: all that is there can be come to. Plain. -/
import Derived.Test.YtmmcjjklmcfegaaV8
import Derived.Test.YtmmcjjklmcfegaaBase8
namespace Go.Proofs.Ytmmcjjklmcfegaa
open Tarj

/-- What each way of a step keeps, a step keeps; a field is put only by DPut. -/
theorem step_keep4 {X : Type} (K : Kd X) (J : Sm X → Prop) (s : Sm X) (d : Dd) (hIJ : J s) (hF : Fine s.regs s.os)
    (fld : ∀ v u, v ∈ s.regs → v.ref = true → u ∈ objAt s.os v.n → OkV s.os u)
    (hset : ∀ (r : Int) v, 0 ≤ r → r < 8 → OkV s.os v → J (K.set s r v))
    (hput : d.kind = 4 → ∀ i (k : Nat) u, Lives s.os i → k < (objAt s.os i).length → OkV s.os u → J (K.put s i k u))
    (hnewN : ∀ n : Nat, n ≤ 4 → (K.new s n).2 = none → J (K.new s n).1)
    (hnewS : ∀ (n : Nat) o (r : Int), n ≤ 4 → 0 ≤ r → r < 8 → (K.new s n).2 = some o → J (K.set (K.new s n).1 r ⟨true, o⟩)) : J (K.step s d).1 := by
  by_cases h4 : d.kind = 4
  · exact step_keep K J s d hIJ hF fld hset (hput h4) hnewN hnewS
  · unfold Kd.step
    split
    · exact hIJ
    · rename_i hw
      have hw0 : wrongC d = 0 := Classical.byContradiction hw
      obtain ⟨k1, k7, hto, hfr, hn, hn2⟩ := wrong_zero hw0
      split
      · rename_i e1
        have hn4 := hn e1
        have ht := hto (by omega)
        have a1 := hnewN d.n.toNat (by omega)
        have a2 := hnewS d.n.toNat
        split
        · rename_i t ht'
          rw [ht'] at a1; exact a1 rfl
        · rename_i t o ht'
          have := a2 o d.to_ (by omega) ht.1 ht.2 (by rw [ht'])
          rw [ht'] at this; exact this
      · split
        · rename_i e2
          have ht := hto (by omega)
          exact hset _ _ ht.1 ht.2 ⟨(fun h => by cases h), fun _ => hn2 e2⟩
        · have hf := hfr (by omega)
          have hokf := hF.reg hf.1 hf.2
          split
          · have ht := hto (by omega)
            exact hset _ _ ht.1 ht.2 hokf
          · split
            · have ht := hto (by omega)
              split
              · exact hIJ
              · rename_i hfc
                have hfc0 : fieldC s.os (Proofs.Ytmmcjjklmcfegaa.reg s.regs d.frm) d.at_ = 0 := Classical.byContradiction hfc
                obtain ⟨f1, f2, f3⟩ := field_zero hfc0
                refine hset _ _ ht.1 ht.2 (fld _ _ (List.mem_of_getElem? (reg_get hf.1 (by rw [hF.regs8]; exact hf.2))) f1 ?_)
                rw [List.getD_eq_getElem?_getD, List.getElem?_eq_getElem (by omega)]
                exact List.getElem_mem _
            · split
              · exact hIJ
              · exact hIJ
/-- All references are those of the graph from the start. -/
def OldE (g : G) (os : Os) : Prop := ∀ (i : Nat) (l : List V) (v : V), os[i]? = some (some l) → v ∈ l → v.ref = true → EG g (i : Int) v.n
theorem OldE.shr {g : G} {os os' : Os} (h : OldE g os) (hs : ∀ (i : Nat) (l : List V), os'[i]? = some (some l) → os[i]? = some (some l)) : OldE g os' := fun i l v hl => h i l v (hs i l hl)
theorem startC_old {g : G} (hG : Good g) : OldE g (startC g).os := by
  intro i l v hl hv hr
  refine ⟨by omega, ?_⟩
  have := zfield hG (i := i) (l := l) hl
  rw [this]
  exact mem_targets_iff'.2 ⟨v, hv, hr, rfl⟩
theorem InvK.old {room : Int} {g : G} {s : Sm Cx} (h : InvK s) (ho : OldE g s.os) {d : Dd} (hd : d.kind ≠ 4) : OldE g ((cKd room).step s d).1.os := by
  refine step_keep4 (cKd room) (fun t => OldE g t.os) s d ho h.fine (fun v u => h.fld) ?_ (fun h4 => absurd h4 hd) ?_ ?_
  · intro r v h0 h1 hv
    have hr : r.toNat < s.regs.length := by rw [h.fine.regs8]; omega
    exact ho.shr (dnF_end (p := [s.regs.getD r.toNat ⟨false, 0⟩]) (q := []) (h.inv.hold hr hv.1)).2.shr
  · intro n hn he
    unfold cKd at he ⊢
    simp only at he ⊢
    split at he
    · rename_i hroom; rw [if_pos hroom]; exact ho
    · cases he
  · intro n o r hn h0 h1 he
    unfold cKd at he ⊢
    simp only at he ⊢
    split at he
    · cases he
    · rename_i hroom
      rw [if_neg hroom]
      have he := Option.some.inj he
      subst he
      have hr : r.toNat < s.regs.length := by rw [h.fine.regs8]; omega
      have h2 : OldE g (s.os ++ [some (zerosV n)]) := by
        intro i l v hl hv hvr
        rcases push_get hl with h3 | rfl
        · exact ho i l v h3 hv hvr
        · rw [mem_zeros hv] at hvr; cases hvr
      exact h2.shr (dnF_end (p := [s.regs.getD r.toNat ⟨false, 0⟩]) (q := []) ((h.inv.new n).hold (u := ⟨true, (s.os.length : Int)⟩) hr fun _ => lives_new s.os (zerosV n))).2.shr
theorem runsC_old {g : G} (hG : Good g) (room : Int) {ds : List Dd} (hn : ds.length ≤ 100) (h4 : ∀ d ∈ ds, d.kind ≠ 4) : ∀ k, k ≤ ds.length → OldE g (runs (cKd room).step (startC g) (ds.take k)).1.os := by
  intro k
  induction k with
  | zero => intro _; exact startC_old hG
  | succ k ih =>
    intro hk
    obtain ⟨d, hd⟩ : ∃ d, ds[k]? = some d := ⟨ds[k]'(by omega), List.getElem?_eq_getElem (by omega)⟩
    rw [runs_take _ _ hd]
    exact (runsC_inv hG room k ds (by omega) (by omega)).1.old (ih (by omega)) (h4 d (List.mem_of_getElem? hd))
open Classical in
/-- Where each of some has one of them ahead of it, something goes round. -/
theorem goes_round (E : Int → Int → Prop) (U : Int → Prop) (N : Nat) (hU : ∀ x, U x → 0 ≤ x ∧ x < (N : Int)) (hp : ∀ x, U x → ∃ y, U y ∧ E y x) {x0 : Int} (h0 : U x0) : ∃ y, U y ∧ Rnd E y := by
  refine Classical.byContradiction fun hno => ?_
  have hf : ∃ f : Int → Int, ∀ x, U x → U (f x) ∧ E (f x) x := by
    refine ⟨fun x => if h : ∃ y, U y ∧ E y x then Classical.choose h else x, fun x hx => ?_⟩
    have h := hp x hx
    simp only [dif_pos h]
    exact Classical.choose_spec h
  obtain ⟨f, hf⟩ := hf
  let q : Nat → Int := fun k => Nat.rec x0 (fun _ y => f y) k
  have hq : ∀ k, U (q k) := by
    intro k
    induction k with
    | zero => exact h0
    | succ k ih => exact (hf _ ih).1
  have he : ∀ k, E (q (k + 1)) (q k) := fun k => (hf _ (hq k)).2
  have hl : ∀ i j, Lead E (q (i + j)) (q i) := by
    intro i j
    induction j with
    | zero => exact .here _
    | succ j ih => exact .step (he (i + j)) ih
  have hne : ∀ i j, i < j → q i ≠ q j := by
    intro i j hij hh
    refine hno ⟨q j, hq j, q (j - 1), ?_, ?_⟩
    · have := he (j - 1)
      rwa [show j - 1 + 1 = j by omega] at this
    · have := hl i (j - 1 - i)
      rw [show i + (j - 1 - i) = j - 1 by omega, hh] at this
      exact this
  have hnd : ((List.range (N + 1)).map fun k => (q k).toNat).Nodup := by
    rw [List.nodup_iff_pairwise_ne, List.pairwise_map]
    refine List.Pairwise.imp ?_ List.pairwise_lt_range
    intro i j hij hh
    refine hne i j hij ?_
    have h1 := (hU _ (hq i)).1
    have h2 := (hU _ (hq j)).1
    omega
  have := nodup_len N _ hnd (by
    intro x hx
    obtain ⟨k, _, rfl⟩ := List.mem_map.1 hx
    have := hU _ (hq k)
    omega)
  rw [List.length_map, List.length_range] at this
  omega
theorem EG_lt {g : G} {x y : Int} (h : EG g x y) : x < (g.objs.length : Int) := by
  obtain ⟨h0, h1⟩ := h
  refine Classical.byContradiction fun hn => ?_
  unfold fieldsAt at h1
  rw [List.getD_eq_getElem?_getD, List.getElem?_eq_none (by omega)] at h1
  simp [targets] at h1
/-- Where nothing goes round, all that is there can be come to. -/
theorem all_led {g : G} {s : Sm Cx} (h : InvK s) (ho : OldE g s.os) (hr : rndL g g.objs.length = []) : ∀ x, Lives s.os x → RchM s.regs s.os x := by
  intro x hx
  refine Classical.byContradiction fun hn => ?_
  have hp : ∀ x, (Lives s.os x ∧ ¬ RchM s.regs s.os x) → ∃ y, (Lives s.os y ∧ ¬ RchM s.regs s.os y) ∧ EG g y x := by
    rintro x ⟨hx, hn⟩
    have h1 := h.inv.at hx
    have h2 := h.pos x.toNat _ h1 (by rw [Int.toNat_of_nonneg hx.1]; exact hx)
    rw [cnt_nil] at h2
    have z1 : cnt s.regs x = 0 := cnt_none fun v hv hvr e => hn (e ▸ .root hv hvr)
    have z2 : 0 < cnt (allO s.os) x := by
      have : (toC s).os = s.os := rfl
      rw [this] at h2
      omega
    obtain ⟨v, hv, hvr, rfl⟩ := cnt_some z2
    obtain ⟨i, l, hi, hvl⟩ := mem_allO_iff hv
    exact ⟨(i : Int), ⟨lives_nat hi, fun hh => hn (.step hh (by rw [Int.toNat_natCast]; exact hi) hvl hvr)⟩, ho i l v hi hvl hvr⟩
  obtain ⟨y, hy, hrnd⟩ := goes_round (EG g) (fun x => Lives s.os x ∧ ¬ RchM s.regs s.os x) s.os.length (fun x hx => ⟨hx.1.1, by have := hx.1.lt; have := hx.1.1; omega⟩) hp ⟨hx, hn⟩
  obtain ⟨j, hj, _⟩ := hrnd
  have hyn := EG_lt hj
  have : y ∈ rndL g g.objs.length := mem_rndL.2 ⟨⟨hy.1.1, hyn⟩, j, hj, by assumption⟩
  rw [hr] at this
  cases this
end Go.Proofs.Ytmmcjjklmcfegaa
