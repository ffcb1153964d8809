/- What a memory may let go without being told from the one without end. Plain. -/
import Derived.Test.YtmmcjjklmcfegaaBase5
import Derived.Test.YtmmcjjklmcfegaaR4
namespace Go.Proofs.Ytmmcjjklmcfegaa

/-- What registers lead to. -/
inductive RchM (regs : List V) (os : Os) : Int → Prop
  | root {v : V} : v ∈ regs → v.ref = true → RchM regs os v.n
  | step {i : Int} {l : List V} {v : V} : RchM regs os i → os[i.toNat]? = some (some l) → v ∈ l → v.ref = true → RchM regs os v.n
theorem RchM.least {regs : List V} {os : Os} {P : Int → Prop} (h1 : ∀ v ∈ regs, v.ref = true → P v.n) (h2 : ∀ i l, P i → os[i.toNat]? = some (some l) → ∀ v ∈ l, v.ref = true → P v.n) {i : Int} (h : RchM regs os i) : P i := by
  induction h with
  | root hv hr => exact h1 _ hv hr
  | step _ hl hv hr ih => exact h2 _ _ ih hl _ hv hr
/-- A state without what a memory knows beside. -/
def bare {X : Type} (s : Sm X) : Sm Unit := ⟨s.regs, s.os, ()⟩
/-- One has all to which the other one leads. -/
structure Kin (a b : Sm Unit) : Prop where
  regs : a.regs = b.regs
  len : a.os.length = b.os.length
  same : ∀ i, RchM b.regs b.os i → a.os[i.toNat]? = b.os[i.toNat]?
theorem Kin.refl (a : Sm Unit) : Kin a a := ⟨rfl, rfl, fun _ _ => rfl⟩
theorem Kin.rch {a b : Sm Unit} (h : Kin a b) {i : Int} : RchM a.regs a.os i ↔ RchM b.regs b.os i := by
  constructor
  · intro hi
    refine hi.least (fun v hv hr => .root (h.regs ▸ hv) hr) (fun j l hj hl v hv hr => .step hj ((h.same j hj).symm.trans hl) hv hr)
  · intro hi
    have : RchM a.regs a.os i ∧ RchM b.regs b.os i := by
      refine hi.least (P := fun i => RchM a.regs a.os i ∧ RchM b.regs b.os i) (fun v hv hr => ⟨.root (h.regs ▸ hv) hr, .root hv hr⟩) (fun j l hj hl v hv hr => ⟨.step hj.1 ((h.same j hj.2).trans hl) hv hr, .step hj.2 hl hv hr⟩)
    exact this.1
theorem Kin.trans {a b c : Sm Unit} (h1 : Kin a b) (h2 : Kin b c) : Kin a c :=
  ⟨h1.regs.trans h2.regs, h1.len.trans h2.len, fun i hi => (h1.same i (h2.rch.2 hi)).trans (h2.same i hi)⟩
theorem InvI.rch_lives {t : Sm Unit} (h : InvI t) {i : Int} (hi : RchM t.regs t.os i) : Lives t.os i :=
  hi.least (fun v hv hr => (h.fine.regs v hv).1 hr) (fun j l hj hl v hv hr => (h.okf hj (u := v) (by
    have : objAt t.os j = l := by unfold objAt; rw [hl]; rfl
    rw [this]; exact hv)).1 hr)
theorem Kin.objAt {a b : Sm Unit} (h : Kin a b) {i : Int} (hi : RchM b.regs b.os i) : objAt a.os i = objAt b.os i := by unfold Proofs.Ytmmcjjklmcfegaa.objAt; rw [h.same i hi]
theorem Kin.lives {a b : Sm Unit} (h : Kin a b) {i : Int} (hi : RchM b.regs b.os i) : Lives a.os i ↔ Lives b.os i := by unfold Lives; rw [h.same i hi]
theorem mem_reg {l : List V} (h8 : l.length = 8) {r : Int} (h0 : 0 ≤ r) (h1 : r < 8) : reg l r ∈ l := List.mem_of_getElem? (reg_get h0 (by rw [h8]; exact h1))
/-- A register's turn. -/
theorem rch_set {regs : List V} {os : Os} {r : Nat} {u : V} (hu : u.ref = true → RchM regs os u.n) {i : Int} (h : RchM (regs.set r u) os i) : RchM regs os i := by
  refine h.least (fun v hv hr => ?_) (fun j l hj hl v hv hr => .step hj hl hv hr)
  rcases List.mem_or_eq_of_mem_set hv with hv | rfl
  · exact .root hv hr
  · exact hu hr
theorem kin_set {a b : Sm Unit} (h : Kin a b) (r : Int) {u : V} (hu : u.ref = true → RchM b.regs b.os u.n) : Kin (iKd.set a r u) (iKd.set b r u) :=
  ⟨by show a.regs.set _ _ = b.regs.set _ _; rw [h.regs], h.len, fun i hi => h.same i (rch_set hu hi)⟩
/-- A field's turn. -/
theorem rch_put {regs : List V} {os : Os} {j : Int} {k : Nat} {u : V} (hj : Lives os j) (hjr : RchM regs os j) (hu : u.ref = true → RchM regs os u.n) {i : Int} (h : RchM regs (os.set j.toNat (some ((objAt os j).set k u))) i) : RchM regs os i := by
  refine h.least (fun v hv hr => .root hv hr) (fun x l hx hl v hv hr => ?_)
  rcases put_get hl hj with h1 | rfl
  · exact .step hx h1 hv hr
  · rcases List.mem_or_eq_of_mem_set hv with hv | rfl
    · exact .step hjr hj.obj hv hr
    · exact hu hr
theorem kin_put {a b : Sm Unit} (h : Kin a b) (hb : ∀ i, RchM b.regs b.os i → Lives b.os i) {j : Int} (hj : RchM b.regs b.os j) (k : Nat) {u : V} (hu : u.ref = true → RchM b.regs b.os u.n) : Kin (iKd.put a j k u) (iKd.put b j k u) := by
  refine ⟨h.regs, ?_, fun i hi => ?_⟩
  · show (a.os.set _ _).length = (b.os.set _ _).length
    rw [List.length_set, List.length_set]; exact h.len
  · have hi' := rch_put (hb j hj) hj hu hi
    show (a.os.set _ _)[i.toNat]? = (b.os.set _ _)[i.toNat]?
    rw [h.objAt hj, List.getElem?_set, List.getElem?_set, h.len, h.same i hi']
/-- One more. -/
theorem rch_new {regs : List V} {os : Os} {r n : Nat} {i : Int} (h : RchM (regs.set r ⟨true, (os.length : Int)⟩) (os ++ [some (zerosV n)]) i) : RchM regs os i ∨ i = (os.length : Int) := by
  refine h.least (P := fun i => RchM regs os i ∨ i = (os.length : Int)) (fun v hv hr => ?_) (fun j l hj hl' v hv hr => ?_)
  · rcases List.mem_or_eq_of_mem_set hv with hv | rfl
    · exact .inl (.root hv hr)
    · exact .inr rfl
  · rcases push_get hl' with h1 | rfl
    · rcases hj with hj | rfl
      · exact .inl (.step hj h1 hv hr)
      · rw [Int.toNat_natCast, List.getElem?_eq_none (Nat.le_refl _)] at h1; cases h1
    · rw [mem_zeros hv] at hr; cases hr
theorem kin_new {a b : Sm Unit} (h : Kin a b) (hb : ∀ i, RchM b.regs b.os i → Lives b.os i) (n : Nat) (r : Int) : Kin (iKd.set (iKd.new a n).1 r ⟨true, (a.os.length : Int)⟩) (iKd.set (iKd.new b n).1 r ⟨true, (b.os.length : Int)⟩) := by
  refine ⟨?_, ?_, fun i hi => ?_⟩
  · show a.regs.set _ _ = b.regs.set _ _
    rw [h.regs, h.len]
  · show (a.os ++ [_]).length = (b.os ++ [_]).length
    simp [h.len]
  · show (a.os ++ [_])[i.toNat]? = (b.os ++ [_])[i.toNat]?
    rcases rch_new hi with h1 | rfl
    · have := (hb i h1).lt
      rw [List.getElem?_append_left (by rw [h.len]; exact this), List.getElem?_append_left this]
      exact h.same i h1
    · rw [Int.toNat_natCast, List.getElem?_append_right (by rw [h.len]; exact Nat.le_refl _), List.getElem?_append_right (Nat.le_refl _), h.len]
/-- Each step of two that are kin. -/
theorem kin_step {a b : Sm Unit} (h : Kin a b) (hI : InvI b) (d : Dd) : (iKd.step a d).2 = (iKd.step b d).2 ∧ Kin (iKd.step a d).1 (iKd.step b d).1 := by
  have hb : ∀ i, RchM b.regs b.os i → Lives b.os i := fun i => hI.rch_lives
  have hfield : ∀ v, v ∈ b.regs → ∀ x, fieldC a.os v x = fieldC b.os v x := by
    intro v hv x
    unfold fieldC
    split
    · rfl
    · rename_i hr
      rw [h.objAt (.root hv (by simpa using hr))]
  have h8 := hI.fine.regs8
  unfold Kd.step
  split
  · exact ⟨rfl, h⟩
  · rename_i hw
    have hw0 : wrongC d = 0 := Classical.byContradiction hw
    obtain ⟨k1, k7, hto, hfr, hn, hn2⟩ := wrong_zero hw0
    rw [h.regs]
    split
    · exact ⟨rfl, kin_new h hb d.n.toNat d.to_⟩
    · split
      · exact ⟨rfl, kin_set h d.to_ (fun h => by cases h)⟩
      · rename_i e1 e2
        have hf := hfr (by omega)
        have hmf := mem_reg h8 hf.1 hf.2
        have hrf : (reg b.regs d.frm).ref = true → RchM b.regs b.os (reg b.regs d.frm).n := fun hr => .root hmf hr
        split
        · exact ⟨rfl, kin_set h d.to_ hrf⟩
        · split
          · rename_i e4
            have ht := hto (by omega)
            have hmt := mem_reg h8 ht.1 ht.2
            rw [hfield _ hmt]
            split
            · exact ⟨rfl, h⟩
            · rename_i hfc
              have hfc0 : fieldC b.os (Proofs.Ytmmcjjklmcfegaa.reg b.regs d.to_) d.at_ = 0 := Classical.byContradiction hfc
              obtain ⟨f1, f2, f3⟩ := field_zero hfc0
              exact ⟨rfl, kin_put h hb (.root hmt f1) _ hrf⟩
          · split
            · rw [hfield _ hmf]
              split
              · exact ⟨rfl, h⟩
              · rename_i hfc
                have hfc0 : fieldC b.os (Proofs.Ytmmcjjklmcfegaa.reg b.regs d.frm) d.at_ = 0 := Classical.byContradiction hfc
                obtain ⟨f1, f2, f3⟩ := field_zero hfc0
                have hro := hrf f1
                have hob := (hb _ hro).obj
                rw [h.objAt hro]
                refine ⟨rfl, kin_set h d.to_ (fun hr => .step hro hob ?_ hr)⟩
                rw [List.getD_eq_getElem?_getD, List.getElem?_eq_getElem (by omega)]
                exact List.getElem_mem _
            · split
              · exact ⟨rfl, h⟩
              · refine ⟨?_, h⟩
                simp only
                split
                · rename_i hr
                  rw [h.objAt (hrf hr)]
                · rfl
/-- What a memory tells: each step is told as that of the one without end, but for its own and what has no room. -/
structure Tells {X : Type} (st : Sm X → Dd → Sm X × Ot) (W : Int → Bool) (s : Sm X) (d : Dd) : Prop where
  own : W d.kind = true ∨ (st s d).2.code = 6 → Kin (bare (st s d).1) (bare s)
  pure_ : W d.kind = false → (st s d).2.code ≠ 6 → (st s d).2 = (iKd.step (bare s) d).2 ∧ Kin (bare (st s d).1) (iKd.step (bare s) d).1
/-- Kinds that are a memory's own. -/
def wB (W : List Int) (k : Int) : Bool := decide (k ∈ W)
def toldB (W : Int → Bool) (p : Dd × Ot) : Bool := !W p.1.kind && !(p.2.code == 6)
/-- What is told, without what is its own and what had no room. -/
def toldF (W : Int → Bool) (ds : List Dd) (os : List Ot) : List (Dd × Ot) := (ds.zip os).filter (toldB W)
theorem toldF_snoc (W : Int → Bool) {ds : List Dd} {os : List Ot} (hl : ds.length = os.length) (d : Dd) (o : Ot) : toldF W (ds ++ [d]) (os ++ [o]) = toldF W ds os ++ (if toldB W (d, o) = true then [(d, o)] else []) := by
  unfold toldF
  rw [List.zip_append hl, List.filter_append]
  simp only [List.zip_cons_cons, List.zip_nil_right]
  split <;> simp_all
theorem toldF_len (W : Int → Bool) (ds : List Dd) (os : List Ot) : (toldF W ds os).length ≤ ds.length := by
  unfold toldF
  refine Nat.le_trans (List.length_filter_le _ _) ?_
  rw [List.length_zip]; omega
theorem told_sim {X : Type} (st : Sm X → Dd → Sm X × Ot) (W : Int → Bool) (s0 : Sm X) (t0 : Sm Unit) (hK : Kin (bare s0) t0) (hI : InvI t0) (ds : List Dd) (hlen : t0.os.length + ds.length ≤ 900)
    (hT : ∀ k d, ds[k]? = some d → Tells st W (runs st s0 (ds.take k)).1 d) :
    ∀ k, k ≤ ds.length → ∃ t, runs iKd.step t0 ((toldF W (ds.take k) (runs st s0 (ds.take k)).2).map Prod.fst) = (t, (toldF W (ds.take k) (runs st s0 (ds.take k)).2).map Prod.snd) ∧ Kin (bare (runs st s0 (ds.take k)).1) t ∧ InvI t ∧ t.os.length ≤ t0.os.length + k := by
  intro k
  induction k with
  | zero =>
    intro _
    exact ⟨t0, rfl, hK, hI, by omega⟩
  | succ k ih =>
    intro hk
    obtain ⟨t, h1, h2, h3, h4⟩ := ih (by omega)
    obtain ⟨d, hd⟩ : ∃ d, ds[k]? = some d := ⟨ds[k]'(by omega), List.getElem?_eq_getElem (by omega)⟩
    have hT' := hT k d hd
    have e1 : ds.take (k + 1) = ds.take k ++ [d] := take_succ_some _ _ _ hd
    rw [e1, runs_snoc, toldF_snoc W (by rw [runs_len]) d]
    obtain ⟨S, hS⟩ : ∃ S, runs st s0 (ds.take k) = S := ⟨_, rfl⟩
    rw [hS] at h1 h2 hT' ⊢
    simp only
    by_cases hb : toldB W (d, (st S.1 d).2) = true
    · rw [if_pos hb, List.map_append, List.map_append]
      unfold toldB at hb
      rw [Bool.and_eq_true] at hb
      obtain ⟨b1, b2⟩ := hb
      obtain ⟨p1, p2⟩ := hT'.pure_ (by simpa using b1) (by simpa using b2)
      obtain ⟨q1, q2⟩ := kin_step h2 h3 d
      obtain ⟨i1, i2, i3⟩ := h3.step (by omega) d
      refine ⟨(iKd.step t d).1, ?_, p2.trans q2, i1, by omega⟩
      show runs iKd.step t0 (_ ++ [d]) = (_, _ ++ [(st S.1 d).2])
      rw [runs_snoc, h1, p1, q1]
    · rw [if_neg hb, List.append_nil]
      refine ⟨t, h1, ?_, h3, by omega⟩
      refine (hT'.own ?_).trans h2
      unfold toldB at hb
      rw [Bool.and_eq_true] at hb
      by_cases hw : W d.kind = true
      · exact .inl hw
      · right
        refine Classical.byContradiction fun hc => hb ⟨by simpa using hw, by simpa using hc⟩
theorem wrong_six (d : Dd) : wrongC d ≠ 6 := by
  unfold wrongC
  repeat' split
  all_goals decide
theorem field_six (os : Os) (v : V) (x : Int) : fieldC os v x ≠ 6 := by
  unfold fieldC
  repeat' split
  all_goals decide
/-- A memory's step is told as that of the one without end, if its ways are. -/
theorem kd_tells {X : Type} (K : Kd X) (W : Int → Bool) (s : Sm X) (d : Dd) (hF : Fine s.regs s.os) (hW : W d.kind = false)
    (fld : ∀ v u, v ∈ s.regs → v.ref = true → u ∈ objAt s.os v.n → OkV s.os u)
    (hset : ∀ (r : Int) v, 0 ≤ r → r < 8 → OkV s.os v → (v.ref = true → RchM s.regs s.os v.n) → Kin (bare (K.set s r v)) (iKd.set (bare s) r v))
    (hput : ∀ i (k : Nat) u, Lives s.os i → RchM s.regs s.os i → k < (objAt s.os i).length → OkV s.os u → (u.ref = true → RchM s.regs s.os u.n) → Kin (bare (K.put s i k u)) (iKd.put (bare s) i k u))
    (hnewN : ∀ n : Nat, n ≤ 4 → (K.new s n).2 = none → Kin (bare (K.new s n).1) (bare s))
    (hnewS : ∀ (n : Nat) o (r : Int), n ≤ 4 → 0 ≤ r → r < 8 → (K.new s n).2 = some o → Kin (bare (K.set (K.new s n).1 r ⟨true, o⟩)) (iKd.set (iKd.new (bare s) n).1 r ⟨true, (s.os.length : Int)⟩)) : Tells K.step W s d := by
  have key : ((K.step s d).2.code = 6 → Kin (bare (K.step s d).1) (bare s)) ∧ ((K.step s d).2.code ≠ 6 → (K.step s d).2 = (iKd.step (bare s) d).2 ∧ Kin (bare (K.step s d).1) (iKd.step (bare s) d).1) := by
    have hid : Kin (bare s) (bare s) := Kin.refl _
    unfold Kd.step
    show _ ∧ _
    have e1 : (bare s).regs = s.regs := rfl
    have e2 : (bare s).os = s.os := rfl
    rw [e1, e2]
    split
    · exact ⟨fun _ => hid, fun _ => ⟨rfl, hid⟩⟩
    · rename_i hw
      have hw0 : wrongC d = 0 := Classical.byContradiction hw
      obtain ⟨k1, k7, hto, hfr, hn, hn2⟩ := wrong_zero hw0
      split
      · rename_i e1
        have hn4 := hn e1
        have ht := hto (by omega)
        have a1 := hnewN d.n.toNat (by omega)
        have a2 := hnewS d.n.toNat
        split
        · rename_i t ht'
          rw [ht'] at a1
          exact ⟨fun _ => a1 rfl, fun h => absurd rfl h⟩
        · rename_i t o ht'
          have := a2 o d.to_ (by omega) ht.1 ht.2 (by rw [ht'])
          rw [ht'] at this
          exact ⟨(fun h => by cases h), fun _ => ⟨rfl, this⟩⟩
      · rename_i e1
        split
        · rename_i e2
          have ht := hto (by omega)
          exact ⟨(fun h => by cases h), fun _ => ⟨rfl, hset _ _ ht.1 ht.2 ⟨(fun h => by cases h), fun _ => hn2 e2⟩ (fun h => by cases h)⟩⟩
        · rename_i e2
          have hf := hfr (by omega)
          have hokf := hF.reg hf.1 hf.2
          have hmf := mem_reg hF.regs8 hf.1 hf.2
          have hrf : (reg s.regs d.frm).ref = true → RchM s.regs s.os (reg s.regs d.frm).n := fun hr => .root hmf hr
          split
          · rename_i e3
            have ht := hto (by omega)
            exact ⟨(fun h => by cases h), fun _ => ⟨rfl, hset _ _ ht.1 ht.2 hokf hrf⟩⟩
          · split
            · rename_i e4
              have ht := hto (by omega)
              have hmt := mem_reg hF.regs8 ht.1 ht.2
              split
              · exact ⟨fun _ => hid, fun _ => ⟨rfl, hid⟩⟩
              · rename_i hfc
                have hfc0 : fieldC s.os (Proofs.Ytmmcjjklmcfegaa.reg s.regs d.to_) d.at_ = 0 := Classical.byContradiction hfc
                obtain ⟨f1, f2, f3⟩ := field_zero hfc0
                exact ⟨(fun h => by cases h), fun _ => ⟨rfl, hput _ _ _ ((hF.reg ht.1 ht.2).1 f1) (.root hmt f1) (by omega) hokf hrf⟩⟩
            · split
              · rename_i e5
                have ht := hto (by omega)
                split
                · exact ⟨fun _ => hid, fun _ => ⟨rfl, hid⟩⟩
                · rename_i hfc
                  have hfc0 : fieldC s.os (Proofs.Ytmmcjjklmcfegaa.reg s.regs d.frm) d.at_ = 0 := Classical.byContradiction hfc
                  obtain ⟨f1, f2, f3⟩ := field_zero hfc0
                  have hmm : (objAt s.os (Proofs.Ytmmcjjklmcfegaa.reg s.regs d.frm).n).getD d.at_.toNat ⟨false, 0⟩ ∈ objAt s.os (Proofs.Ytmmcjjklmcfegaa.reg s.regs d.frm).n := by
                    rw [List.getD_eq_getElem?_getD, List.getElem?_eq_getElem (by omega)]
                    exact List.getElem_mem _
                  exact ⟨(fun h => by cases h), fun _ => ⟨rfl, hset _ _ ht.1 ht.2 (fld _ _ hmf f1 hmm) (fun hr => .step (hrf f1) (hokf.1 f1).obj hmm hr)⟩⟩
              · split
                · exact ⟨fun _ => hid, fun _ => ⟨rfl, hid⟩⟩
                · exact ⟨fun _ => hid, fun _ => ⟨rfl, hid⟩⟩
  exact ⟨fun h => key.1 (h.resolve_left (by rw [hW]; decide)), fun _ h => key.2 h⟩
end Go.Proofs.Ytmmcjjklmcfegaa
