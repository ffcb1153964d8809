/- A memory with so many words: who moves stands packed; two of them side by side. Plain. -/
import Derived.Test.YtmmcjjklmcfegaaRna
namespace Go.Proofs.Ytmmcjjklmcfegaa

/-- Two machines, step by step. -/
theorem step2 {X Y : Type} (K1 : Kd X) (K2 : Kd Y) (E : Prop) (J : Sm X → Sm Y → Prop) (s1 : Sm X) (s2 : Sm Y) (d : Dd) (hJ : J s1 s2) (hreg : s1.regs = s2.regs) (hF : Fine s1.regs s1.os)
    (hobj : ∀ v ∈ s1.regs, v.ref = true → objAt s1.os v.n = objAt s2.os v.n)
    (hset : ∀ (r : Int) v, J (K1.set s1 r v) (K2.set s2 r v))
    (hput : ∀ i (k : Nat) u, Lives s1.os i → RchM s1.regs s1.os i → J (K1.put s1 i k u) (K2.put s2 i k u))
    (hnewN : ∀ n : Nat, n ≤ 4 → (K1.new s1 n).2 = none → E ∨ ((K2.new s2 n).2 = none ∧ J (K1.new s1 n).1 (K2.new s2 n).1))
    (hnewS : ∀ (n : Nat) o (r : Int), n ≤ 4 → (K1.new s1 n).2 = some o → (K2.new s2 n).2 = some o ∧ J (K1.set (K1.new s1 n).1 r ⟨true, o⟩) (K2.set (K2.new s2 n).1 r ⟨true, o⟩)) :
    ((K1.step s1 d).2.code = 6 ∧ E) ∨ ((K1.step s1 d).2 = (K2.step s2 d).2 ∧ J (K1.step s1 d).1 (K2.step s2 d).1) := by
  have hfield : ∀ v, v ∈ s1.regs → ∀ x, fieldC s1.os v x = fieldC s2.os v x := by
    intro v hv x
    unfold fieldC
    split
    · rfl
    · rename_i hr
      rw [hobj v hv (by simpa using hr)]
  have h8 := hF.regs8
  unfold Kd.step
  rw [← hreg]
  split
  · exact .inr ⟨rfl, hJ⟩
  · rename_i hw
    have hw0 : wrongC d = 0 := Classical.byContradiction hw
    obtain ⟨k1, k7, hto, hfr, hn, hn2⟩ := wrong_zero hw0
    split
    · rename_i e1
      have hn4 := hn e1
      have a1 := hnewN d.n.toNat (by omega)
      have a2 := hnewS d.n.toNat
      rcases h1 : K1.new s1 d.n.toNat with ⟨t1, o1⟩
      rcases h2 : K2.new s2 d.n.toNat with ⟨t2, o2⟩
      rw [h1, h2] at a1 a2
      cases o1 with
      | none =>
        rcases a1 rfl with hE | ⟨h3, h4⟩
        · exact .inl ⟨rfl, hE⟩
        · simp only at h3
          subst h3
          exact .inr ⟨rfl, h4⟩
      | some o =>
        obtain ⟨h3, h4⟩ := a2 o d.to_ (by omega) rfl
        simp only at h3
        subst h3
        exact .inr ⟨rfl, h4⟩
    · rename_i e1
      split
      · exact .inr ⟨rfl, hset _ _⟩
      · rename_i e2
        have hf := hfr (by omega)
        have hmf := mem_reg h8 hf.1 hf.2
        split
        · exact .inr ⟨rfl, hset _ _⟩
        · split
          · rename_i e4
            have ht := hto (by omega)
            have hmt := mem_reg h8 ht.1 ht.2
            rw [← hfield _ hmt]
            split
            · exact .inr ⟨rfl, hJ⟩
            · rename_i hfc
              have hfc0 : fieldC s1.os (Proofs.Ytmmcjjklmcfegaa.reg s1.regs d.to_) d.at_ = 0 := Classical.byContradiction hfc
              obtain ⟨f1, f2, f3⟩ := field_zero hfc0
              exact .inr ⟨rfl, hput _ _ _ ((hF.regs _ hmt).1 f1) (.root hmt f1)⟩
          · split
            · rw [← hfield _ hmf]
              split
              · exact .inr ⟨rfl, hJ⟩
              · rename_i hfc
                have hfc0 : fieldC s1.os (Proofs.Ytmmcjjklmcfegaa.reg s1.regs d.frm) d.at_ = 0 := Classical.byContradiction hfc
                obtain ⟨f1, f2, f3⟩ := field_zero hfc0
                rw [← hobj _ hmf f1]
                exact .inr ⟨rfl, hset _ _⟩
            · split
              · exact .inr ⟨rfl, hJ⟩
              · refine .inr ⟨?_, hJ⟩
                simp only
                split
                · rename_i hr
                  rw [hobj _ hmf hr]
                · rfl

def PkI (os : Os) (a : List Int) : Prop := ∃ l : List Int, l.Perm (thereL os os.length) ∧ Pk os a l 0
def tot (os : Os) : Int := totL os (thereL os os.length)
theorem roomF_pk {words n : Int} {os : Os} {a : List Int} : ∀ {l : List Int} {next : Int}, Pk os a l next → roomF false words n os a l next = if n ≤ words - (next + totL os l) then next + totL os l else -1 := by
  intro l
  induction l with
  | nil => intro next _; simp [roomF, totL]
  | cons i l ih =>
    intro next h
    unfold roomF
    rw [if_neg (by simp), h.1, ih h.2, totL_cons, Int.add_assoc]
theorem PkI.row {words : Int} {os : Os} {a : List Int} (h : PkI os a) (hP : PlI words os a) : Pk os a (rowL os a) 0 := by
  obtain ⟨l, h1, h2⟩ := h
  rw [← rowL_unique hP h1 (h2.says.1.imp fun {x y} h => by have := szO_pos os x; omega)]
  exact h2
theorem room_pk {col words : Int} (hc : col = 2 ∨ col = 3) {s : Sm Rx} (h : PlI words s.os s.x.at_) (hp : PkI s.os s.x.at_) (n : Int) : roomS col words s n = if n ≤ words - tot s.os then tot s.os else -1 := by
  have e : decide (col = 1) = false := by simp; omega
  unfold roomS
  rw [e, roomF_pk (hp.row h), totL_perm (rowL_perm _ _), Int.zero_add]
  rfl
theorem room_fits {col words : Int} (hc : col = 2 ∨ col = 3) {s : Sm Rx} (h : PlI words s.os s.x.at_) (hp : PkI s.os s.x.at_) (n : Int) : 0 ≤ roomS col words s n ↔ n ≤ words - tot s.os := by
  rw [room_pk hc h hp]
  have := totL_pos s.os (thereL s.os s.os.length)
  split
  · rename_i h1; exact ⟨fun _ => h1, fun _ => this⟩
  · rename_i h1; exact ⟨fun h => absurd h (by decide), fun h => absurd h h1⟩
theorem InvX.clear_pk {words : Int} {s : Sm Rx} (h : InvX words s) (hw : 0 ≤ words) {col : Int} (hc : col = 2 ∨ col = 3) : PkI (clearS col s).os (clearS col s).x.at_ := by
  have hk := h.pl.kill (foundL s.regs s.os)
  unfold clearS
  simp only
  rcases hc with rfl | rfl
  · rw [if_pos rfl]
    exact ⟨_, h.foundPerm, (hk.down hw h.foundPerm).2⟩
  · rw [if_neg (by decide), if_pos rfl]
    exact ⟨_, rowL_perm _ _, (hk.down hw (rowL_perm _ _)).2⟩
theorem thereL_push (os : Os) (n : Nat) : thereL (os ++ [some (zerosV n)]) (os ++ [some (zerosV n)]).length = thereL os os.length ++ [(os.length : Int)] := by
  rw [List.length_append, List.length_singleton, thereL_yes (l := zerosV n) (by rw [List.getElem?_append_right (Nat.le_refl _)]; simp)]
  congr 1
  unfold thereL
  congr 1
  refine List.filter_congr fun i hi => ?_
  rw [List.getElem?_append_left (List.mem_range.1 hi)]
theorem pk_append {os : Os} {a : List Int} {x : Int} : ∀ {l : List Int} {next : Int}, Pk os a l next → cAt a x = next + totL os l → Pk os a (l ++ [x]) next := by
  intro l
  induction l with
  | nil => intro next _ h; exact ⟨by simpa [totL] using h, trivial⟩
  | cons i l ih =>
    intro next h h2
    refine ⟨h.1, ih h.2 ?_⟩
    rw [h2, totL_cons, Int.add_assoc]
theorem pk_same {os os' : Os} {a b : List Int} : ∀ {l : List Int} {next : Int}, (∀ x ∈ l, cAt b x = cAt a x ∧ szO os' x = szO os x) → Pk os a l next → Pk os' b l next ∧ totL os' l = totL os l := by
  intro l
  induction l with
  | nil => intro next _ _; exact ⟨trivial, rfl⟩
  | cons i l ih =>
    intro next h h2
    have hi := h i (List.mem_cons_self ..)
    have := ih (fun x hx => h x (List.mem_cons_of_mem _ hx)) h2.2
    refine ⟨⟨by rw [hi.1]; exact h2.1, by rw [hi.2]; exact this.1⟩, ?_⟩
    rw [totL_cons, totL_cons, hi.2, this.2]
theorem PkI.push {words : Int} {os : Os} {a : List Int} (h : PkI os a) (hP : PlI words os a) (n : Nat) : PkI (os ++ [some (zerosV n)]) (a ++ [tot os]) := by
  obtain ⟨l, h1, h2⟩ := h
  have hm : ∀ x ∈ l, Lives os x := fun x hx => ((mem_thereL (Nat.le_refl _)).1 (h1.mem_iff.1 hx)).1
  have hs : ∀ x ∈ l, cAt (a ++ [tot os]) x = cAt a x ∧ szO (os ++ [some (zerosV n)]) x = szO os x := fun x hx => by
    have hl := hm x hx
    refine ⟨?_, by unfold szO; rw [objAt_push' hl]⟩
    rw [cAt_push _ _ _ hl.1, if_neg]
    have := hl.lt; have := hl.1; have := hP.len; omega
  obtain ⟨h3, h4⟩ := pk_same hs h2
  refine ⟨l ++ [(os.length : Int)], by rw [thereL_push]; exact h1.append_right _, pk_append h3 ?_⟩
  rw [cAt_push _ _ _ (by omega), if_pos (by rw [hP.len]), h4, Int.zero_add]
  exact totL_perm h1.symm
theorem put_lives {os : Os} {j : Int} (hj : Lives os j) (l : List V) (i : Int) : Lives (os.set j.toNat (some l)) i ↔ Lives os i := by
  constructor
  · rintro ⟨h0, m, hl⟩
    by_cases e : j.toNat = i.toNat
    · have : i = j := by have := hj.1; omega
      rw [this]; exact hj
    · rw [List.getElem?_set_ne e] at hl; exact ⟨h0, m, hl⟩
  · intro h; exact h.put l
theorem there_ext {os os' : Os} (h : ∀ i, Lives os i ↔ Lives os' i) : (thereL os os.length).Perm (thereL os' os'.length) := by
  refine (List.perm_ext_iff_of_nodup (rising_nodup (thereL_rising _ _)) (rising_nodup (thereL_rising _ _))).2 fun x => ?_
  rw [mem_thereL (Nat.le_refl _), mem_thereL (Nat.le_refl _), h]
  constructor
  · rintro ⟨h1, _⟩; exact ⟨h1, by have := h1.lt; have := h1.1; omega⟩
  · rintro ⟨h1, _⟩; have h2 := (h x).2 h1; exact ⟨h1, by have := h2.lt; have := h2.1; omega⟩
theorem put_sz {os : Os} {j : Int} (hj : Lives os j) (k : Nat) (u : V) (i : Int) (h0 : 0 ≤ i) : szO (os.set j.toNat (some ((objAt os j).set k u))) i = szO os i := by
  have := hj.lt
  have := hj.1
  unfold szO
  rw [objAt_set _ h0 hj.1 (by omega)]
  split
  · rename_i e; subst e; rw [List.length_set]
  · rfl
theorem PkI.put {os : Os} {a : List Int} (h : PkI os a) {j : Int} (hj : Lives os j) (k : Nat) (u : V) : PkI (os.set j.toNat (some ((objAt os j).set k u))) a := by
  obtain ⟨l, h1, h2⟩ := h
  refine ⟨l, h1.trans (there_ext fun i => (put_lives hj _ i).symm), (pk_same (fun x hx => ⟨rfl, put_sz hj k u x ?_⟩) h2).1⟩
  exact ((mem_thereL (Nat.le_refl _)).1 (h1.mem_iff.1 hx)).1.1
theorem InvX.step_pk {words : Int} {s : Sm Rx} (h : InvX words s) (hp : PkI s.os s.x.at_) (hw : 0 ≤ words) {col : Int} (hc : col = 2 ∨ col = 3) (d : Dd) : PkI (rstep col words s d).1.os (rstep col words s d).1.x.at_ := by
  unfold rstep
  split
  · exact h.clear_pk hw hc
  · refine step_keepR (rKd col words) (fun t => PkI t.os t.x.at_) s d hp h.fine (fun v u => h.fld) (fun r v _ _ hv hr => hp) (fun i k u hi hir hk hu hur => hp.put hi k u) ?_ ?_
    · intro n hn he
      unfold rKd at he ⊢
      simp only at he ⊢
      split at he
      · cases he
      · rename_i h1
        rw [if_neg h1]
        split at he
        · cases he
        · rename_i h2
          rw [if_neg h2]; exact h.clear_pk hw hc
    · intro n o r hn _ _ he
      unfold rKd Kd.set at *
      simp only at he ⊢
      split at he
      · rename_i h1
        rw [if_pos h1]
        have e := room_pk hc h.pl hp (1 + n)
        have h2 := (room_fits hc h.pl hp (1 + n)).1 h1
        rw [if_pos h2] at e
        show PkI (s.os ++ [_]) (s.x.at_ ++ [roomS col words s (1 + n)])
        rw [e]
        exact hp.push h.pl n
      · rename_i h1
        rw [if_neg h1]
        split at he
        · rename_i h2
          rw [if_pos h2]
          have hI := h.clear_pl hw col
          have hq := h.clear_pk hw hc
          have e := room_pk hc hI hq (1 + n)
          have h3 := (room_fits hc hI hq (1 + n)).1 h2
          rw [if_pos h3] at e
          show PkI ((clearS col s).os ++ [_]) ((clearS col s).x.at_ ++ [roomS col words (clearS col s) (1 + n)])
          rw [e]
          exact hq.push hI n
        · cases he
theorem runsX_pk {words : Int} (hw : 0 ≤ words) {col : Int} (hc : col = 2 ∨ col = 3) : ∀ (k : Nat) (ds : List Dd), k ≤ ds.length → k ≤ 100 → PkI (runs (rstep col words) startX (ds.take k)).1.os (runs (rstep col words) startX (ds.take k)).1.x.at_ := by
  intro k
  induction k with
  | zero =>
    intro ds _ _
    rw [List.take_zero]
    exact ⟨[], List.Perm.refl _, trivial⟩
  | succ k ih =>
    intro ds hk h100
    have h1 := ih ds (by omega) (by omega)
    obtain ⟨d, hd⟩ : ∃ d, ds[k]? = some d := ⟨ds[k]'(by omega), List.getElem?_eq_getElem (by omega)⟩
    rw [runs_take _ _ hd]
    exact (runsX_inv hw col k ds (by omega) (by omega)).1.step_pk h1 hw hc d
/-- Alike: who moves in the order of finding, and who moves down. -/
structure Alk (s t : Sm Rx) : Prop where
  regs : s.regs = t.regs
  os : s.os = t.os
  times : s.x.times = t.x.times
theorem Alk.clear {s t : Sm Rx} (h : Alk s t) : Alk (clearS 2 s) (clearS 3 t) := by
  refine ⟨h.regs, ?_, ?_⟩
  · show killed s.os (foundL s.regs s.os) = killed t.os (foundL t.regs t.os)
    rw [h.regs, h.os]
  · show s.x.times + 1 = t.x.times + 1
    rw [h.times]
theorem Alk.step {words : Int} {s t : Sm Rx} (h : Alk s t) (hw : 0 ≤ words) (hs : InvX words s) (ht : InvX words t) (hps : PkI s.os s.x.at_) (hpt : PkI t.os t.x.at_) (d : Dd) : (rstep 2 words s d).2 = (rstep 3 words t d).2 ∧ Alk (rstep 2 words s d).1 (rstep 3 words t d).1 := by
  unfold rstep
  split
  · exact ⟨rfl, h.clear⟩
  · have f1 : ∀ n, (0 ≤ roomS 2 words s n ↔ 0 ≤ roomS 3 words t n) := fun n => by
      rw [room_fits (.inl rfl) hs.pl hps, room_fits (.inr rfl) ht.pl hpt, h.os]
    have f2 : ∀ n, (0 ≤ roomS 2 words (clearS 2 s) n ↔ 0 ≤ roomS 3 words (clearS 3 t) n) := fun n => by
      rw [room_fits (.inl rfl) (hs.clear_pl hw 2) (hs.clear_pk hw (.inl rfl)), room_fits (.inr rfl) (ht.clear_pl hw 3) (ht.clear_pk hw (.inr rfl)), h.clear.os]
    have hnew : ∀ n : Nat, ((rKd 2 words).new s n).2 = ((rKd 3 words).new t n).2 ∧ Alk ((rKd 2 words).new s n).1 ((rKd 3 words).new t n).1 := by
      intro n
      unfold rKd
      simp only
      by_cases h1 : 0 ≤ roomS 2 words s (1 + n)
      · rw [if_pos h1, if_pos ((f1 _).1 h1)]
        refine ⟨by rw [h.os], h.regs, ?_, h.times⟩
        show s.os ++ _ = t.os ++ _
        rw [h.os]
      · rw [if_neg h1, if_neg (fun h => h1 ((f1 _).2 h))]
        by_cases h2 : 0 ≤ roomS 2 words (clearS 2 s) (1 + n)
        · rw [if_pos h2, if_pos ((f2 _).1 h2)]
          refine ⟨by rw [h.os], h.clear.regs, ?_, h.clear.times⟩
          show (clearS 2 s).os ++ _ = (clearS 3 t).os ++ _
          rw [h.clear.os]
        · rw [if_neg h2, if_neg (fun h => h2 ((f2 _).2 h))]
          exact ⟨rfl, h.clear⟩
    have hset : ∀ {s t : Sm Rx}, Alk s t → ∀ (r : Int) (v : V), Alk ((rKd 2 words).set s r v) ((rKd 3 words).set t r v) := by
      intro s t h r v
      refine ⟨?_, h.os, h.times⟩
      show s.regs.set _ _ = t.regs.set _ _
      rw [h.regs]
    rcases step2 (rKd 2 words) (rKd 3 words) False Alk s t d h h.regs hs.fine (fun v _ _ => by rw [h.os]) (fun r v => hset h r v) (fun i k u _ _ => ⟨h.regs, by
        show s.os.set _ _ = t.os.set _ _
        rw [h.os], h.times⟩) (fun n _ hN => .inr ⟨(hnew n).1.symm.trans hN, (hnew n).2⟩) (fun n o r _ hS => ⟨(hnew n).1.symm.trans hS, hset (hnew n).2 r _⟩) with ⟨_, h2⟩ | h2
    · exact h2.elim
    · exact h2
theorem runs_alike {words : Int} (hw : 0 ≤ words) {ds : List Dd} (hn : ds.length ≤ 100) : ∀ k, k ≤ ds.length → (runs (rstep 2 words) startX (ds.take k)).2 = (runs (rstep 3 words) startX (ds.take k)).2 ∧ Alk (runs (rstep 2 words) startX (ds.take k)).1 (runs (rstep 3 words) startX (ds.take k)).1 := by
  intro k
  induction k with
  | zero => intro _; exact ⟨rfl, rfl, rfl, rfl⟩
  | succ k ih =>
    intro hk
    obtain ⟨h1, h2⟩ := ih (by omega)
    obtain ⟨d, hd⟩ : ∃ d, ds[k]? = some d := ⟨ds[k]'(by omega), List.getElem?_eq_getElem (by omega)⟩
    rw [runs_take _ _ hd, runs_take _ _ hd]
    have h3 := h2.step hw (runsX_inv hw 2 k ds (by omega) (by omega)).1 (runsX_inv hw 3 k ds (by omega) (by omega)).1 (runsX_pk hw (.inl rfl) k ds (by omega) (by omega)) (runsX_pk hw (.inr rfl) k ds (by omega) (by omega)) d
    refine ⟨?_, h3.2⟩
    show _ ++ [_] = _ ++ [_]
    rw [h1, h3.1]
theorem totL_sub {os : Os} : ∀ {l m : List Int}, l.Nodup → (∀ x ∈ l, x ∈ m) → totL os l ≤ totL os m := by
  intro l
  induction l with
  | nil => intro m _ _; exact totL_pos os m
  | cons x l ih =>
    intro m hn hs
    rw [List.nodup_cons] at hn
    have hx := hs x (List.mem_cons_self ..)
    have h1 := ih (m := m.erase x) hn.2 (fun y hy => by
      rw [List.mem_erase_of_ne (by rintro rfl; exact hn.1 hy)]
      exact hs y (List.mem_cons_of_mem _ hy))
    have h2 := totL_perm (os := os) (List.perm_cons_erase hx)
    rw [totL_cons] at h2 ⊢
    omega
/-- One has no more than the other, and that as the other has it. -/
def Les (a b : Os) : Prop := ∀ i, Lives a i → b[i.toNat]? = a[i.toNat]?
theorem Les.lives {a b : Os} (h : Les a b) {i : Int} (hi : Lives a i) : Lives b i := ⟨hi.1, _, (h i hi).trans hi.obj⟩
theorem Les.tot {a b : Os} (h : Les a b) : tot a ≤ tot b := by
  unfold Proofs.Ytmmcjjklmcfegaa.tot
  have e : totL a (thereL a a.length) = totL b (thereL a a.length) := by
    unfold totL
    congr 1
    refine List.map_congr_left fun x hx => ?_
    have hl := ((mem_thereL (Nat.le_refl _)).1 hx).1
    unfold szO objAt
    rw [h x hl]
  rw [e]
  refine totL_sub (rising_nodup (thereL_rising _ _)) fun x hx => ?_
  have hl := h.lives ((mem_thereL (Nat.le_refl _)).1 hx).1
  exact (mem_thereL (Nat.le_refl _)).2 ⟨hl, by have := hl.lt; have := hl.1; omega⟩
/-- With more words no more is cleared up. -/
structure Mre (s t : Sm Rx) : Prop where
  kin : ∃ i : Sm Unit, Kin (bare s) i ∧ Kin (bare t) i ∧ InvI i
  times : t.x.times ≤ s.x.times
  les : t.x.times = s.x.times → Les t.os s.os
theorem Mre.regs {s t : Sm Rx} (h : Mre s t) : s.regs = t.regs := by
  obtain ⟨i, h1, h2, _⟩ := h.kin
  exact h1.regs.trans h2.regs.symm
theorem Mre.len {s t : Sm Rx} (h : Mre s t) : s.os.length = t.os.length := by
  obtain ⟨i, h1, h2, _⟩ := h.kin
  exact h1.len.trans h2.len.symm
theorem Mre.same {s t : Sm Rx} (h : Mre s t) {x : Int} (hx : RchM s.regs s.os x) : s.os[x.toNat]? = t.os[x.toNat]? := by
  obtain ⟨i, h1, h2, _⟩ := h.kin
  have := h1.rch.1 hx
  exact (h1.same x this).trans (h2.same x this).symm
theorem Mre.rch {s t : Sm Rx} (h : Mre s t) {x : Int} : RchM s.regs s.os x ↔ RchM t.regs t.os x := by
  obtain ⟨i, h1, h2, _⟩ := h.kin
  exact h1.rch.trans h2.rch.symm
section
variable {words more : Int} {s t : Sm Rx}
/-- What is left behind a clearing is in what the other one has. -/
theorem Mre.lesClear (h : Mre s t) (ht : InvX more t) (col : Int) : Les (clearS col t).os s.os := by
  intro i hi
  obtain ⟨h1, h2⟩ := killed_lives.1 (show Lives (killed t.os (foundL t.regs t.os)) i from hi)
  have h3 := (ht.leads i).1 h2
  rw [h.same (h.rch.2 h3)]
  show t.os[i.toNat]? = (killed t.os (foundL t.regs t.os))[i.toNat]?
  rw [killed_get, Int.toNat_of_nonneg hi.1, if_pos h2]
theorem Mre.lesBoth (h : Mre s t) (hs : InvX words s) (ht : InvX more t) (col : Int) : Les (clearS col t).os (clearS col s).os := by
  intro i hi
  obtain ⟨h1, h2⟩ := killed_lives.1 (show Lives (killed t.os (foundL t.regs t.os)) i from hi)
  have h3 := h.rch.2 ((ht.leads i).1 h2)
  rw [← h.lesClear ht col i hi]
  show (killed s.os (foundL s.regs s.os))[i.toNat]? = _
  rw [killed_get, Int.toNat_of_nonneg hi.1, if_pos ((hs.leads i).2 h3)]
theorem Mre.clears (h : Mre s t) (hs : InvX words s) (ht : InvX more t) (col : Int) : Mre (clearS col s) (clearS col t) := by
  obtain ⟨i, h1, h2, h3⟩ := h.kin
  refine ⟨⟨i, (hs.clearKin col).trans h1, (ht.clearKin col).trans h2, h3⟩, ?_, fun _ => h.lesBoth hs ht col⟩
  show t.x.times + 1 ≤ s.x.times + 1
  have := h.times; omega
theorem Mre.clear1 (h : Mre s t) (hs : InvX words s) (col : Int) : Mre (clearS col s) t := by
  obtain ⟨i, h1, h2, h3⟩ := h.kin
  refine ⟨⟨i, (hs.clearKin col).trans h1, h2, h3⟩, ?_, fun e => ?_⟩
  · show t.x.times ≤ s.x.times + 1
    have := h.times; omega
  · have e2 : t.x.times = s.x.times + 1 := e
    have := h.times; omega
theorem Mre.clear2 (h : Mre s t) (ht : InvX more t) (hlt : t.x.times < s.x.times) (col : Int) : Mre s (clearS col t) := by
  obtain ⟨i, h1, h2, h3⟩ := h.kin
  refine ⟨⟨i, h1, (ht.clearKin col).trans h2, h3⟩, ?_, fun _ => h.lesClear ht col⟩
  show t.x.times + 1 ≤ s.x.times
  omega
theorem Les.push {a b : Os} (h : Les a b) (hl : b.length = a.length) (n : Nat) : Les (a ++ [some (zerosV n)]) (b ++ [some (zerosV n)]) := by
  intro i hi
  rcases lives_push hi with h1 | rfl
  · have := h1.lt
    rw [List.getElem?_append_left (by omega), List.getElem?_append_left this]
    exact h i h1
  · rw [Int.toNat_natCast, List.getElem?_append_right (by omega), List.getElem?_append_right (by omega), hl]
/-- How often they were cleared, and what is there. -/
def JM (s t : Sm Rx) : Prop := t.x.times ≤ s.x.times ∧ (t.x.times = s.x.times → Les t.os s.os)
theorem JM.push (h : JM s t) (hl : s.os.length = t.os.length) (n : Nat) (r : Int) (a b : Int) (c d : Int) : JM (⟨s.regs.set r.toNat ⟨true, c⟩, s.os ++ [some (zerosV n)], ⟨s.x.at_ ++ [a], s.x.times⟩⟩) (⟨t.regs.set r.toNat ⟨true, d⟩, t.os ++ [some (zerosV n)], ⟨t.x.at_ ++ [b], t.x.times⟩⟩) :=
  ⟨h.1, fun e => (h.2 e).push hl n⟩
theorem Mre.jm (h : Mre s t) : JM s t := ⟨h.times, h.les⟩
theorem Mre.step (h : Mre s t) (hw : 0 ≤ words) (hwm : words ≤ more) {col : Int} (hc : col = 2 ∨ col = 3) (hs : InvX words s) (ht : InvX more t) (hps : PkI s.os s.x.at_) (hpt : PkI t.os t.x.at_) (hln : s.os.length < 900) (d : Dd) (h6 : (rstep col words s d).2.code ≠ 6) :
    (rstep col words s d).2 = (rstep col more t d).2 ∧ Mre (rstep col words s d).1 (rstep col more t d).1 := by
  have hwm0 : 0 ≤ more := by omega
  by_cases h8 : d.kind = 8
  · unfold rstep
    rw [if_pos h8, if_pos h8]
    exact ⟨rfl, h.clears hs ht col⟩
  · have es : rstep col words s d = (rKd col words).step s d := by unfold rstep; rw [if_neg h8]
    have et : rstep col more t d = (rKd col more).step t d := by unfold rstep; rw [if_neg h8]
    have key : ((rstep col words s d).2.code = 6 ∧ True) ∨ ((rstep col words s d).2 = (rstep col more t d).2 ∧ JM (rstep col words s d).1 (rstep col more t d).1) := by
      rw [es, et]
      refine step2 (rKd col words) (rKd col more) True JM s t d h.jm h.regs hs.fine (fun v hv hr => ?_) (fun r v => h.jm) (fun i k u hi hir => ?_) (fun n _ _ => .inl trivial) (fun n o r hn he => ?_)
      · unfold objAt
        rw [h.same (.root hv hr)]
      · refine ⟨h.times, fun e => ?_⟩
        have hob : objAt s.os i = objAt t.os i := by unfold objAt; rw [h.same hir]
        intro x hx
        show (s.os.set _ _)[x.toNat]? = (t.os.set _ _)[x.toNat]?
        have hti : Lives t.os i := ht.led i (h.rch.1 hir)
        have hx' := (put_lives hti ((objAt t.os i).set k u) x).1 hx
        have h1 := h.les e x hx'
        rw [hob, List.getElem?_set, List.getElem?_set, h.len, h1]
      · have fs := room_fits hc hs.pl hps (1 + n)
        have ft := room_fits hc ht.pl hpt (1 + n)
        have fsc := room_fits hc (hs.clear_pl hw col) (hs.clear_pk hw hc) (1 + n)
        have ftc := room_fits hc (ht.clear_pl hwm0 col) (ht.clear_pk hwm0 hc) (1 + n)
        have l1 := (h.lesClear ht col).tot
        have l2 := (h.lesBoth hs ht col).tot
        have hl := h.len
        have hlc1 : (clearS col s).os.length = s.os.length := killed_len _ _
        have hlc2 : (clearS col t).os.length = t.os.length := killed_len _ _
        unfold rKd Kd.set at *
        simp only at he ⊢
        by_cases h1 : 0 ≤ roomS col words s (1 + n)
        · rw [if_pos h1] at he ⊢
          have he := Option.some.inj he
          subst he
          have h1' := fs.1 h1
          by_cases h2 : 0 ≤ roomS col more t (1 + n)
          · rw [if_pos h2]
            exact ⟨by rw [hl], h.jm.push hl n r _ _ _ _⟩
          · rw [if_neg h2]
            have h2' : ¬ (1 + n : Int) ≤ more - tot t.os := fun h => h2 (ft.2 h)
            have hlt : t.x.times < s.x.times := by
              have := h.times
              rcases Int.lt_or_eq_of_le this with h3 | h3
              · exact h3
              · have := (h.les h3).tot; omega
            rw [if_pos (ftc.2 (by omega))]
            refine ⟨by rw [hl], ?_⟩
            exact (h.clear2 ht hlt col).jm.push (by rw [hlc2]; exact hl) n r _ _ _ _
        · rw [if_neg h1] at he ⊢
          by_cases h2 : 0 ≤ roomS col words (clearS col s) (1 + n)
          · rw [if_pos h2] at he ⊢
            have he := Option.some.inj he
            subst he
            have h2' := fsc.1 h2
            by_cases h3 : 0 ≤ roomS col more t (1 + n)
            · rw [if_pos h3]
              refine ⟨by rw [hl], ?_⟩
              exact (h.clear1 hs col).jm.push (by rw [hlc1]; exact hl) n r _ _ _ _
            · rw [if_neg h3, if_pos (ftc.2 (by omega))]
              refine ⟨by rw [hl], ?_⟩
              exact (h.clears hs ht col).jm.push (by rw [hlc1, hlc2]; exact hl) n r _ _ _ _
          · rw [if_neg h2] at he; cases he
    rcases key with ⟨h1, _⟩ | ⟨h1, h2⟩
    · exact absurd h1 h6
    · refine ⟨h1, ?_, h2.1, h2.2⟩
      obtain ⟨i, i1, i2, i3⟩ := h.kin
      have hW : wB [8] d.kind = false := by unfold wB; simp [h8]
      have t1 := (hs.tells col d).pure_ hW h6
      have t2 := (ht.tells col d).pure_ hW (by rw [← h1]; exact h6)
      have q1 := kin_step i1 i3 d
      have q2 := kin_step i2 i3 d
      have hil : i.os.length < 900 := by have : s.os.length = i.os.length := i1.len; omega
      exact ⟨_, t1.2.trans q1.2, t2.2.trans q2.2, (i3.step hil d).1⟩
end
theorem startX_ideal : InvI (bare startX) := ⟨(startX_inv 0).fine, fun i hi => by simp [bare, startX] at hi, by simp [bare, startX]⟩
theorem runs_more {words more : Int} (hw : 0 ≤ words) (hwm : words ≤ more) {col : Int} (hc : col = 2 ∨ col = 3) {ds : List Dd} (hn : ds.length ≤ 100) (h6 : ∀ o ∈ (runs (rstep col words) startX ds).2, o.code ≠ 6) : ∀ k, k ≤ ds.length →
    (runs (rstep col words) startX (ds.take k)).2 = (runs (rstep col more) startX (ds.take k)).2 ∧ Mre (runs (rstep col words) startX (ds.take k)).1 (runs (rstep col more) startX (ds.take k)).1 := by
  intro k
  induction k with
  | zero =>
    intro _
    exact ⟨rfl, ⟨bare startX, Kin.refl _, Kin.refl _, startX_ideal⟩, Int.le_refl _, fun _ i hi => rfl⟩
  | succ k ih =>
    intro hk
    obtain ⟨h1, h2⟩ := ih (by omega)
    obtain ⟨d, hd⟩ : ∃ d, ds[k]? = some d := ⟨ds[k]'(by omega), List.getElem?_eq_getElem (by omega)⟩
    have hpre := runs_front (rstep col words) startX ds (k + 1)
    rw [runs_take _ _ hd] at hpre
    rw [runs_take _ _ hd, runs_take _ _ hd]
    have hI := runsX_inv hw col k ds (by omega) (by omega)
    have hc6 : (rstep col words (runs (rstep col words) startX (ds.take k)).1 d).2.code ≠ 6 := h6 _ (hpre.subset (List.mem_append_right _ (List.mem_singleton.2 rfl)))
    have h3 := h2.step hw hwm hc hI.1 (runsX_inv (by omega) col k ds (by omega) (by omega)).1 (runsX_pk hw hc k ds (by omega) (by omega)) (runsX_pk (by omega) hc k ds (by omega) (by omega)) (by omega) d hc6
    refine ⟨?_, h3.2⟩
    show _ ++ [_] = _ ++ [_]
    rw [h1, h3.1]
/-- Kin memories have one graph of what can be come to. -/
theorem kin_iso {a t : Sm Unit} (hK : Kin a t) (hI : InvI t) {c d : G} (hc : CanonS (gOf a.regs a.os) c) (hd : CanonS (gOf t.regs t.os) d) : c = d := by
  obtain ⟨l, dist, hF, rfl⟩ := hd
  have hl := fun x => found_leads hI hF x
  have hS : SIm t a l id := by
    refine ⟨fun x hx => ?_, fun x _ y _ h => h, ?_, fun v hv hr => (hl _).2 (.root hv hr), fun x hx => ?_, fun x hx v hv hr => (hl _).2 ?_⟩
    · have h1 := hI.rch_lives ((hl x).1 hx)
      have h2 := h1.lt
      have h3 := h1.1
      have h4 := hK.len
      refine ⟨⟨h3, by omega⟩, h3, ?_⟩
      show x < _
      omega
    · rw [hK.regs]
      have : ∀ v : V, turnV id v = v := by
        rintro ⟨r, n⟩
        unfold turnV
        split
        · rename_i h; simp only at h; subst h; rfl
        · rfl
      rw [show t.regs.map (turnV id) = t.regs.map id from List.map_congr_left fun v _ => this v, List.map_id]
    · have : ∀ v : V, turnV id v = v := by
        rintro ⟨r, n⟩
        unfold turnV
        split
        · rename_i h; simp only at h; subst h; rfl
        · rfl
      rw [show (objAt t.os x).map (turnV id) = (objAt t.os x).map id from List.map_congr_left fun v _ => this v, List.map_id]
      exact hK.objAt ((hl x).1 hx)
    · exact .step ((hl x).1 hx) (hI.rch_lives ((hl x).1 hx)).obj hv hr
  exact (iso_canon hS.iso ⟨l, dist, hF, rfl⟩ hc).symm
theorem kin_canon {a b t : Sm Unit} (h1 : Kin a t) (h2 : Kin b t) (hI : InvI t) {c d : G} (hc : CanonS (gOf a.regs a.os) c) (hd : CanonS (gOf b.regs b.os) d) : c = d := by
  obtain ⟨l, dist, hF⟩ := found_ex (hI.fine.fits (by have := hI.room; omega)).rng
  exact (kin_iso h1 hI hc ⟨l, dist, hF, rfl⟩).trans (kin_iso h2 hI hd ⟨l, dist, hF, rfl⟩).symm
end Go.Proofs.Ytmmcjjklmcfegaa
