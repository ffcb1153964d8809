/- Texts C0 U1 C1 U4 C2 Rna Rnb Rpa Gna Gnb in one. -/
import Derived.Test.YtmmcjjklmcfegaaU0
import Derived.Test.YtmmcjjklmcfegaaM9
import Derived.Test.YtmmcjjklmcfegaaS0
import Derived.Test.YtmmcjjklmcfegaaU3
/- Colours: a memory that marks while the work goes on. Plain. -/
namespace Go.Proofs.Ytmmcjjklmcfegaa

def cAt (c : List Int) (i : Int) : Int := c.getD i.toNat 0
def shade (c : List Int) (v : V) : List Int := if v.ref = true ∧ cAt c v.n = 0 then c.set v.n.toNat 1 else c
def shades (c : List Int) (l : List V) : List Int := l.foldl shade c
structure Tx where
  col : List Int
  gone : List Int
/-- What is done where a value comes to stand. -/
def barC (b : Int) (c : List Int) (i : Int) (old u : V) : List Int :=
  if b = 1 then shade c u
  else if b = 2 then (if cAt c i = 2 ∧ (u.ref = true ∧ cAt c u.n = 0) then c.set i.toNat 1 else c)
  else shade c old
def tKd (b : Int) : Kd Tx where
  new := fun s n => if 24 ≤ (thereL s.os s.os.length).length then (s, none) else (⟨s.regs, s.os ++ [some (zerosV n)], ⟨s.x.col ++ [2], s.x.gone⟩⟩, some (s.os.length : Int))
  put := fun s i k u => ⟨s.regs, s.os.set i.toNat (some ((objAt s.os i).set k u)), ⟨barC b s.x.col i ((objAt s.os i).getD k ⟨false, 0⟩) u, s.x.gone⟩⟩
  hold := fun s _ _ => s
/-- Those there that have a colour. -/
def hueL (os : Os) (c : List Int) (h : Int) (k : Nat) : List Int := (thereL os k).filter fun i => cAt c i == h
def workS (s : Sm Tx) : Sm Tx × Int :=
  match (hueL s.os s.x.col 1 s.os.length).head? with
  | none => (s, 7)
  | some i => (⟨s.regs, s.os, ⟨(shades s.x.col (objAt s.os i)).set i.toNat 2, s.x.gone⟩⟩, 0)
def beginC (n : Nat) (regs : List V) : List Int := (targets regs).foldl (fun c j => c.set j.toNat 1) (List.replicate n 0)
def killL (os : Os) (l : List Int) : Os := l.foldl (fun o i => o.set i.toNat none) os
def sweepS (s : Sm Tx) : Sm Tx × Int :=
  if hueL s.os (shades s.x.col s.regs) 1 s.os.length ≠ [] then (⟨s.regs, s.os, ⟨shades s.x.col s.regs, s.x.gone⟩⟩, 8)
  else (⟨s.regs, killL s.os (hueL s.os (shades s.x.col s.regs) 0 s.os.length), ⟨beginC s.x.col.length s.regs, s.x.gone ++ hueL s.os (shades s.x.col s.regs) 0 s.os.length⟩⟩, 0)
def tstep (b : Int) (s : Sm Tx) (d : Dd) : Sm Tx × Ot :=
  if d.kind = 8 then ((workS s).1, ⟨(workS s).2, false, 0⟩) else if d.kind = 9 then ((sweepS s).1, ⟨(sweepS s).2, false, 0⟩) else (tKd b).step s d

theorem cAt_set (c : List Int) {i j : Int} (hi : 0 ≤ i) (hl : i < c.length) (hj : 0 ≤ j) (x : Int) : cAt (c.set i.toNat x) j = if j = i then x else cAt c j := by
  unfold cAt
  rw [List.getD_eq_getElem?_getD, List.getD_eq_getElem?_getD]
  by_cases e : j = i
  · subst e; rw [List.getElem?_set_self (by omega), if_pos rfl]; rfl
  · rw [List.getElem?_set_ne (by omega), if_neg e]
theorem shade_len (c : List Int) (v : V) : (shade c v).length = c.length := by unfold shade; split <;> simp
theorem shades_len (c : List Int) (l : List V) : (shades c l).length = c.length := by
  unfold shades
  induction l generalizing c with
  | nil => rfl
  | cons v l ih => rw [List.foldl_cons, ih, shade_len]
theorem shades_snoc (c : List Int) (l : List V) (v : V) : shades c (l ++ [v]) = shade (shades c l) v := by simp [shades]
/-- A value that is in range. -/
def InR (n : Nat) (v : V) : Prop := v.ref = true → 0 ≤ v.n ∧ v.n < (n : Int)
theorem shade_at {c : List Int} {v : V} (hv : InR c.length v) {j : Int} (hj : 0 ≤ j) : cAt (shade c v) j = if v.ref = true ∧ v.n = j ∧ cAt c j = 0 then 1 else cAt c j := by
  unfold shade
  split
  · rename_i h
    obtain ⟨h0, h1⟩ := hv h.1
    rw [cAt_set c h0 h1 hj]
    by_cases e : j = v.n
    · subst e; rw [if_pos rfl, if_pos ⟨h.1, rfl, h.2⟩]
    · rw [if_neg e, if_neg (fun h => e h.2.1.symm)]
  · rename_i h
    rw [if_neg]
    rintro ⟨h1, rfl, h3⟩
    exact h ⟨h1, h3⟩
theorem shade_keep {c : List Int} {v : V} (hv : InR c.length v) {j : Int} (hj : 0 ≤ j) (h : cAt c j ≠ 0) : cAt (shade c v) j = cAt c j := by
  rw [shade_at hv hj, if_neg (fun h2 => h h2.2.2)]
theorem shade_two {c : List Int} {v : V} (hv : InR c.length v) {j : Int} (hj : 0 ≤ j) (h : cAt (shade c v) j = 2) : cAt c j = 2 := by
  rw [shade_at hv hj] at h
  split at h
  · cases h
  · exact h
theorem shade_hit {c : List Int} {v : V} (hv : InR c.length v) (hr : v.ref = true) : cAt (shade c v) v.n ≠ 0 := by
  rw [shade_at hv (hv hr).1]
  split
  · decide
  · rename_i h
    exact fun e => h ⟨hr, rfl, e⟩
theorem shades_keep {c : List Int} {l : List V} (hl : ∀ v ∈ l, InR c.length v) {j : Int} (hj : 0 ≤ j) (h : cAt c j ≠ 0) : cAt (shades c l) j = cAt c j := by
  unfold shades
  induction l generalizing c with
  | nil => rfl
  | cons v l ih =>
    have hv := hl v (List.mem_cons_self ..)
    have h1 := shade_keep hv hj h
    rw [List.foldl_cons, ih (fun u hu => by rw [shade_len]; exact hl u (List.mem_cons_of_mem _ hu)) (by rw [h1]; exact h), h1]
theorem shades_two {c : List Int} {l : List V} (hl : ∀ v ∈ l, InR c.length v) {j : Int} (hj : 0 ≤ j) (h : cAt (shades c l) j = 2) : cAt c j = 2 := by
  unfold shades at h
  induction l generalizing c with
  | nil => exact h
  | cons v l ih =>
    have hv := hl v (List.mem_cons_self ..)
    exact shade_two hv hj (ih (fun u hu => by rw [shade_len]; exact hl u (List.mem_cons_of_mem _ hu)) h)
theorem shades_hit {c : List Int} {l : List V} (hl : ∀ v ∈ l, InR c.length v) {v : V} (hv : v ∈ l) (hr : v.ref = true) : cAt (shades c l) v.n ≠ 0 := by
  unfold shades
  induction l generalizing c with
  | nil => cases hv
  | cons u l ih =>
    have hu := hl u (List.mem_cons_self ..)
    have hl' : ∀ x ∈ l, InR (shade c u).length x := fun x hx => by rw [shade_len]; exact hl x (List.mem_cons_of_mem _ hx)
    rw [List.foldl_cons]
    rcases List.mem_cons.1 hv with rfl | hv
    · have h1 := shade_hit hu hr
      have := shades_keep hl' (hu hr).1 h1
      unfold shades at this
      rw [this]; exact h1
    · exact ih hl' hv
/-- A white one becomes grey only if it is pointed at by one of the list. -/
theorem shades_new {c : List Int} {l : List V} (hl : ∀ v ∈ l, InR c.length v) {j : Int} (hj : 0 ≤ j) (h : cAt (shades c l) j ≠ 0) : cAt c j ≠ 0 ∨ ∃ v ∈ l, v.ref = true ∧ v.n = j := by
  unfold shades at h
  induction l generalizing c with
  | nil => exact .inl h
  | cons v l ih =>
    have hv := hl v (List.mem_cons_self ..)
    rw [List.foldl_cons] at h
    rcases ih (fun u hu => by rw [shade_len]; exact hl u (List.mem_cons_of_mem _ hu)) h with h1 | ⟨u, hu, hr, hn⟩
    · rw [shade_at hv hj] at h1
      split at h1
      · rename_i h2
        exact .inr ⟨v, List.mem_cons_self .., h2.1, h2.2.1⟩
      · exact .inl h1
    · exact .inr ⟨u, List.mem_cons_of_mem _ hu, hr, hn⟩
def Hues (c : List Int) : Prop := ∀ x ∈ c, x = 0 ∨ x = 1 ∨ x = 2
theorem Hues.at {c : List Int} (h : Hues c) (j : Int) : cAt c j = 0 ∨ cAt c j = 1 ∨ cAt c j = 2 := by
  unfold cAt
  rw [List.getD_eq_getElem?_getD]
  cases hc : c[j.toNat]? with
  | none => exact .inl rfl
  | some x => exact h x (List.mem_of_getElem? hc)
theorem Hues.set {c : List Int} (h : Hues c) (i : Nat) {x : Int} (hx : x = 0 ∨ x = 1 ∨ x = 2) : Hues (c.set i x) := by
  intro y hy
  rcases List.mem_or_eq_of_mem_set hy with hy | rfl
  · exact h y hy
  · exact hx
theorem Hues.shade {c : List Int} (h : Hues c) (v : V) : Hues (shade c v) := by
  unfold Proofs.Ytmmcjjklmcfegaa.shade
  split
  · exact h.set _ (.inr (.inl rfl))
  · exact h
theorem Hues.shades {c : List Int} (h : Hues c) (l : List V) : Hues (shades c l) := by
  unfold Proofs.Ytmmcjjklmcfegaa.shades
  induction l generalizing c with
  | nil => exact h
  | cons v l ih => exact ih (h.shade v)

/-- What a grey one leads to, by white ones. -/
inductive Prot (os : Os) (c : List Int) : Int → Prop
  | grey {i : Int} : Lives os i → cAt c i = 1 → Prot os c i
  | step {p : Int} {l : List V} {v : V} : Prot os c p → os[p.toNat]? = some (some l) → v ∈ l → v.ref = true → cAt c v.n = 0 → Prot os c v.n
def Kp (os : Os) (c : List Int) (i : Int) : Prop := cAt c i ≠ 0 ∨ Prot os c i
theorem Prot.hue {os : Os} {c : List Int} {i : Int} (h : Prot os c i) : cAt c i ≠ 2 := by
  cases h with
  | grey _ h => rw [h]; decide
  | step _ _ _ _ h => rw [h]; decide
theorem Prot.pos {os : Os} {c : List Int} {n : Nat} (hn : ∀ (i : Nat) (l : List V), os[i]? = some (some l) → ∀ v ∈ l, InR n v) {i : Int} (h : Prot os c i) : 0 ≤ i := by
  cases h with
  | grey h _ => exact h.1
  | step _ hl hv hr _ => exact (hn _ _ hl _ hv hr).1
/-- What must be so of a turn for nothing to be lost. -/
structure Mono (os : Os) (c : List Int) (os' : Os) (c' : List Int) : Prop where
  m1 : ∀ i, 0 ≤ i → cAt c i ≠ 0 → cAt c' i ≠ 0
  m2 : ∀ i, Lives os i → Lives os' i
  m4 : ∀ (p : Int) l v, 0 ≤ p → os[p.toNat]? = some (some l) → v ∈ l → v.ref = true → cAt c p ≠ 2 → cAt c' p = 2 → cAt c' v.n ≠ 0
  m5 : ∀ (p : Int) l v, 0 ≤ p → os[p.toNat]? = some (some l) → v ∈ l → v.ref = true → cAt c' v.n ≠ 0 ∨ ∃ l', os'[p.toNat]? = some (some l') ∧ v ∈ l'
theorem Mono.kp {os os' : Os} {c c' : List Int} {n : Nat} (h : Mono os c os' c') (hh : Hues c') (hn : ∀ (i : Nat) (l : List V), os[i]? = some (some l) → ∀ v ∈ l, InR n v) {i : Int} (h0 : 0 ≤ i) (hi : Kp os c i) : Kp os' c' i := by
  have key : ∀ j, Prot os c j → Kp os' c' j := by
    intro j hp
    induction hp with
    | @grey i hl hg => exact .inl (h.m1 i hl.1 (by rw [hg]; decide))
    | @step p l v hpp hl hv hr hc ih =>
      have hp0 : 0 ≤ p := hpp.pos hn
      by_cases hw : cAt c' v.n = 0
      · right
        rcases h.m5 p l v hp0 hl hv hr with h5 | ⟨l', hl', hv'⟩
        · exact absurd hw h5
        · rcases ih with h1 | h1
          · rcases hh.at p with h2 | h2 | h2
            · exact absurd h2 h1
            · exact .step (.grey ⟨hp0, l', hl'⟩ h2) hl' hv' hr hw
            · exact absurd hw (h.m4 p l v hp0 hl hv hr hpp.hue h2)
          · exact .step h1 hl' hv' hr hw
      · exact .inl hw
  rcases hi with h1 | h1
  · exact .inl (h.m1 i h0 h1)
  · exact key i h1
/-- YUASA: all that registers and black ones point at is kept. -/
structure Snap (regs : List V) (os : Os) (c : List Int) : Prop where
  regs : ∀ v ∈ regs, v.ref = true → Kp os c v.n
  black : ∀ (i : Nat) l v, os[i]? = some (some l) → cAt c i = 2 → v ∈ l → v.ref = true → Kp os c v.n
/-- DIJKSTRA, STEELE: no black one points at a white one. -/
def Nbw (os : Os) (c : List Int) : Prop := ∀ (i : Nat) l v, os[i]? = some (some l) → cAt c i = 2 → v ∈ l → v.ref = true → cAt c v.n ≠ 0
theorem Snap.led {regs : List V} {os : Os} {c : List Int} (h : Snap regs os c) (hh : Hues c) (hl : ∀ i, RchM regs os i → Lives os i) {i : Int} (hi : RchM regs os i) : Kp os c i := by
  have : Kp os c i ∧ RchM regs os i := by
    refine hi.least (P := fun i => Kp os c i ∧ RchM regs os i) (fun v hv hr => ⟨h.regs v hv hr, .root hv hr⟩) ?_
    rintro i l ⟨hk, hr⟩ hl' v hv hvr
    refine ⟨?_, .step hr hl' hv hvr⟩
    have hli := hl i hr
    by_cases hw : cAt c v.n = 0
    · rcases hk with hk | hk
      · rcases hh.at i with h2 | h2 | h2
        · exact absurd h2 hk
        · exact .inr (.step (.grey hli h2) hl' hv hvr hw)
        · have h3 := h.black i.toNat l v hl' (by rw [Int.toNat_of_nonneg hli.1]; exact h2) hv hvr
          exact h3
      · exact .inr (.step hk hl' hv hvr hw)
    · exact .inl hw
  exact this.1
theorem mem_hueL {os : Os} {c : List Int} {h : Int} {x : Int} : x ∈ hueL os c h os.length ↔ Lives os x ∧ cAt c x = h := by
  unfold hueL
  rw [List.mem_filter, mem_thereL (Nat.le_refl _)]
  constructor
  · rintro ⟨⟨h1, _⟩, h2⟩; exact ⟨h1, by simpa using h2⟩
  · rintro ⟨h1, h2⟩; exact ⟨⟨h1, by have := h1.lt; have := h1.1; omega⟩, by simpa using h2⟩
theorem no_prot {os : Os} {c : List Int} (h : hueL os c 1 os.length = []) {i : Int} (hp : Prot os c i) : False := by
  induction hp with
  | @grey i hl hg =>
    have : i ∈ hueL os c 1 os.length := mem_hueL.2 ⟨hl, hg⟩
    rw [h] at this; cases this
  | step _ _ _ _ _ ih => exact ih
/-- What is so of registers, objects and colours, by barrier. -/
def BarI (b : Int) (regs : List V) (os : Os) (c : List Int) : Prop := (b = 3 → Snap regs os c) ∧ (b ≠ 3 → Nbw os c)
theorem kill_len (os : Os) (l : List Int) : (killL os l).length = os.length := by
  unfold killL
  induction l generalizing os with
  | nil => rfl
  | cons x l ih => rw [List.foldl_cons, ih, List.length_set]
theorem kill_get (os : Os) (l : List Int) (hl : ∀ x ∈ l, 0 ≤ x) (i : Nat) : (killL os l)[i]? = if (i : Int) ∈ l ∧ i < os.length then some none else os[i]? := by
  unfold killL
  induction l generalizing os with
  | nil => simp
  | cons x l ih =>
    have hx := hl x (List.mem_cons_self ..)
    rw [List.foldl_cons, ih _ (fun y hy => hl y (List.mem_cons_of_mem _ hy)), List.length_set]
    by_cases h1 : (i : Int) ∈ l ∧ i < os.length
    · rw [if_pos h1, if_pos ⟨List.mem_cons_of_mem _ h1.1, h1.2⟩]
    · rw [if_neg h1]
      by_cases h2 : i = x.toNat
      · subst h2
        by_cases h3 : x.toNat < os.length
        · rw [List.getElem?_set_self h3, if_pos ⟨by rw [Int.toNat_of_nonneg hx]; exact List.mem_cons_self .., h3⟩]
        · rw [List.getElem?_eq_none (by rw [List.length_set]; omega), if_neg (fun h => h3 h.2), List.getElem?_eq_none (by omega)]
      · rw [List.getElem?_set_ne (fun e => h2 e.symm), if_neg]
        rintro ⟨h3, h4⟩
        rcases List.mem_cons.1 h3 with h3 | h3
        · omega
        · exact h1 ⟨h3, h4⟩
theorem beginC_len (n : Nat) (regs : List V) : (beginC n regs).length = n := by
  unfold beginC
  have : ∀ (l : List Int) (c : List Int), (l.foldl (fun c j => c.set j.toNat 1) c).length = c.length := by
    intro l
    induction l with
    | nil => intro c; rfl
    | cons x l ih => intro c; rw [List.foldl_cons, ih, List.length_set]
  rw [this]; simp
theorem sets_at (l : List Int) : ∀ (c : List Int), (∀ x ∈ l, 0 ≤ x ∧ x < (c.length : Int)) → ∀ j, 0 ≤ j → cAt (l.foldl (fun c j => c.set j.toNat 1) c) j = if j ∈ l then 1 else cAt c j := by
  induction l with
  | nil => intro c _ j _; simp
  | cons x l ih =>
    intro c hl j hj
    have hx := hl x (List.mem_cons_self ..)
    rw [List.foldl_cons, ih _ (fun y hy => by rw [List.length_set]; exact hl y (List.mem_cons_of_mem _ hy)) j hj, cAt_set c hx.1 hx.2 hj]
    by_cases h1 : j ∈ l
    · rw [if_pos h1, if_pos (List.mem_cons_of_mem _ h1)]
    · rw [if_neg h1]
      by_cases h2 : j = x
      · subst h2; rw [if_pos rfl, if_pos (List.mem_cons_self ..)]
      · rw [if_neg h2, if_neg (fun h => (List.mem_cons.1 h).elim h2 h1)]
theorem cAt_zero (n : Nat) (j : Int) : cAt (List.replicate n 0) j = 0 := by
  unfold cAt
  rw [List.getD_eq_getElem?_getD, List.getElem?_replicate]
  split <;> rfl
theorem beginC_at {n : Nat} {regs : List V} (h : ∀ v ∈ regs, InR n v) {j : Int} (hj : 0 ≤ j) : cAt (beginC n regs) j = if j ∈ targets regs then 1 else 0 := by
  unfold beginC
  rw [sets_at _ _ (fun x hx => ?_) j hj, cAt_zero]
  unfold targets at hx
  obtain ⟨v, hv, rfl⟩ := List.mem_map.1 hx
  rw [List.mem_filter] at hv
  rw [List.length_replicate]
  exact h v hv.1 hv.2
theorem beginC_hues (n : Nat) (regs : List V) : Hues (beginC n regs) := by
  unfold beginC
  have : ∀ (l : List Int) (c : List Int), Hues c → Hues (l.foldl (fun c j => c.set j.toNat 1) c) := by
    intro l
    induction l with
    | nil => intro c h; exact h
    | cons x l ih => intro c h; exact ih _ (h.set _ (.inr (.inl rfl)))
  refine this _ _ fun x hx => ?_
  rw [List.eq_of_mem_replicate hx]; exact .inl rfl
end Go.Proofs.Ytmmcjjklmcfegaa

/- What can be come to in the end: how many there are. Plain. -/
namespace Go.Proofs.Ytmmcjjklmcfegaa

theorem nodup_sub_le {α : Type} [DecidableEq α] : ∀ (l m : List α), l.Nodup → (∀ x ∈ l, x ∈ m) → l.length ≤ m.length := by
  intro l
  induction l with
  | nil => intro m _ _; simp
  | cons x l ih =>
    intro m hn hs
    rw [List.nodup_cons] at hn
    have hx := hs x (List.mem_cons_self ..)
    have h1 := ih (m.erase x) hn.2 (fun y hy => by
      rw [List.mem_erase_of_ne (by rintro rfl; exact hn.1 hy)]
      exact hs y (List.mem_cons_of_mem _ hy))
    rw [List.length_erase_of_mem hx] at h1
    have := List.length_pos_of_mem hx
    rw [List.length_cons]; omega
theorem mem_targets_iff' {l : List V} {x : Int} : x ∈ targets l ↔ ∃ v ∈ l, v.ref = true ∧ v.n = x := by
  unfold targets
  rw [List.mem_map]
  constructor
  · rintro ⟨v, hv, rfl⟩
    rw [List.mem_filter] at hv
    exact ⟨v, hv.1, hv.2, rfl⟩
  · rintro ⟨v, hv, hr, rfl⟩
    exact ⟨v, List.mem_filter.2 ⟨hv, hr⟩, rfl⟩
/-- What Found finds of a memory is what its registers lead to. -/
theorem found_leads {t : Sm Unit} (hI : InvI t) {l dist : List Int} (hF : FoundS (gOf t.regs t.os) l dist) (x : Int) : x ∈ l ↔ RchM t.regs t.os x := by
  have h := hF.farR hI.rng
  constructor
  · have key : ∀ (n : Nat) (y : Int), y ∈ l → D (l, dist) y = n → RchM t.regs t.os y := by
      intro n
      induction n with
      | zero =>
        intro y hy hd
        rcases h.par y hy with ⟨h1, _⟩ | ⟨p, hp, _, h2⟩
        · obtain ⟨v, hv, hr, rfl⟩ := mem_targets_iff'.1 h1
          exact .root hv hr
        · have := (h.inv.found (h.inv.rng p hp)).2 hp
          omega
      | succ n ih =>
        intro y hy hd
        rcases h.par y hy with ⟨h1, _⟩ | ⟨p, hp, h1, h2⟩
        · obtain ⟨v, hv, hr, rfl⟩ := mem_targets_iff'.1 h1
          exact .root hv hr
        · have h3 := ih p hp (by omega)
          obtain ⟨v, hv, hr, rfl⟩ := mem_targets_iff'.1 h1
          rw [fieldsAt_gOf] at hv
          exact .step h3 (hI.rch_lives h3).obj hv hr
    intro hx
    have h0 := (h.inv.found (h.inv.rng x hx)).2 hx
    exact key (D (l, dist) x).toNat x hx (by omega)
  · intro hx
    refine hx.least (P := (· ∈ l)) (fun v hv hr => (h.root _ (mem_targets_iff'.2 ⟨v, hv, hr, rfl⟩)).1) (fun i o hi ho v hv hr => (h.closed i hi _ (mem_targets_iff'.2 ⟨v, ?_, hr, rfl⟩)).1)
    rw [fieldsAt_gOf]
    have : objAt t.os i = o := by unfold objAt; rw [ho]; rfl
    rw [this]; exact hv
theorem rising_nodup {l : List Int} (h : l.Pairwise (· < ·)) : l.Nodup := h.imp fun hlt => by omega
/-- There are as many at least as can be come to. -/
theorem canon_le {a t : Sm Unit} (hK : Kin a t) (hI : InvI t) {c : G} (hc : CanonS (gOf t.regs t.os) c) : c.objs.length ≤ (thereL a.os a.os.length).length := by
  obtain ⟨l, dist, hF, rfl⟩ := hc
  have hfar := hF.farR hI.rng
  have e : (renum (gOf t.regs t.os) l).objs.length = l.length := by simp [renum]
  rw [e]
  refine nodup_sub_le l _ hfar.inv.nodup fun x hx => ?_
  have h1 := (found_leads hI hF x).1 hx
  have h2 := (hK.lives h1).2 (hI.rch_lives h1)
  exact (mem_thereL (Nat.le_refl _)).2 ⟨h2, by have := h2.lt; have := h2.1; omega⟩
/-- Just as many, if nothing else is there. -/
theorem canon_eq {a t : Sm Unit} (hK : Kin a t) (hI : InvI t) {c : G} (hc : CanonS (gOf t.regs t.os) c) (hall : ∀ x, Lives a.os x → RchM a.regs a.os x) : c.objs.length = (thereL a.os a.os.length).length := by
  refine Nat.le_antisymm (canon_le hK hI hc) ?_
  obtain ⟨l, dist, hF, rfl⟩ := hc
  have e : (renum (gOf t.regs t.os) l).objs.length = l.length := by simp [renum]
  rw [e]
  refine nodup_sub_le _ l (rising_nodup (thereL_rising _ _)) fun x hx => ?_
  have h2 := ((mem_thereL (Nat.le_refl _)).1 hx).1
  exact (found_leads hI hF x).2 (hK.rch.1 (hall x h2))
end Go.Proofs.Ytmmcjjklmcfegaa

/- Colours: what is always so. Plain. -/
namespace Go.Proofs.Ytmmcjjklmcfegaa

structure InvT (b : Int) (s : Sm Tx) : Prop where
  fine : Fine s.regs s.os
  cl : s.x.col.length = s.os.length
  len : s.os.length ≤ 900
  led : ∀ i, RchM s.regs s.os i → Lives s.os i
  hues : Hues s.x.col
  bar : BarI b s.regs s.os s.x.col
  nodup : s.x.gone.Nodup
  gone : ∀ x, x ∈ s.x.gone ↔ 0 ≤ x ∧ x < (s.os.length : Int) ∧ ¬ Lives s.os x
theorem InvT.inr {b : Int} {s : Sm Tx} (h : InvT b s) : ∀ (i : Nat) (l : List V), s.os[i]? = some (some l) → ∀ v ∈ l, InR s.x.col.length v := by
  intro i l hl v hv hr
  rw [h.cl]; exact h.fine.rng i l hl v hv hr
theorem InvT.regR {b : Int} {s : Sm Tx} (h : InvT b s) : ∀ v ∈ s.regs, InR s.x.col.length v := by
  intro v hv hr
  have h1 := (h.fine.regs v hv).1 hr
  have h2 := h1.lt
  have h3 := h1.1
  rw [h.cl]; exact ⟨h3, by omega⟩
theorem InvT.fld {b : Int} {s : Sm Tx} (h : InvT b s) {v u : V} (hv : v ∈ s.regs) (hr : v.ref = true) (hu : u ∈ objAt s.os v.n) : OkV s.os u := by
  have hl := ((h.fine.regs v hv).1 hr).obj
  exact ⟨fun hur => h.led _ (.step (.root hv hr) hl hu hur), fun hur => h.fine.num _ _ hl u hu hur⟩
/-- What registers lead to is kept, or there is no grey one and it is no white one. -/
theorem InvT.kp {b : Int} {s : Sm Tx} (h : InvT b s) (hb : b = 3) {i : Int} (hi : RchM s.regs s.os i) : Kp s.os s.x.col i := (h.bar.1 hb).led h.hues h.led hi
theorem mono_shades {os : Os} {c : List Int} {l : List V} (hl : ∀ v ∈ l, InR c.length v) : Mono os c os (shades c l) := by
  refine ⟨fun i h0 h => by rw [shades_keep hl h0 h]; exact h, fun i h => h, fun p l' v h0 _ _ _ h1 h2 => absurd (shades_two hl h0 h2) h1, fun p l' v h0 h1 h2 h3 => .inr ⟨l', h1, h2⟩⟩
theorem bar_shades {b : Int} {s : Sm Tx} (h : InvT b s) {l : List V} (hl : ∀ v ∈ l, InR s.x.col.length v) : BarI b s.regs s.os (shades s.x.col l) := by
  have hm := mono_shades (os := s.os) hl
  refine ⟨fun hb => ?_, fun hb => ?_⟩
  · have hS := h.bar.1 hb
    refine ⟨fun v hv hr => hm.kp (h.hues.shades l) h.inr (h.regR v hv hr).1 (hS.regs v hv hr), fun i l' v hl' h2 hv hr => ?_⟩
    exact hm.kp (h.hues.shades l) h.inr (h.inr i l' hl' v hv hr).1 (hS.black i l' v hl' (shades_two hl (by omega) h2) hv hr)
  · intro i l' v hl' h2 hv hr
    exact hm.m1 _ (h.inr i l' hl' v hv hr).1 (h.bar.2 hb i l' v hl' (shades_two hl (by omega) h2) hv hr)
/-- A round's work. -/
theorem InvT.work {b : Int} {s : Sm Tx} (h : InvT b s) : InvT b (workS s).1 := by
  unfold workS
  split
  · exact h
  · rename_i i hi
    have hm0 : i ∈ hueL s.os s.x.col 1 s.os.length := List.mem_of_mem_head? (by rw [hi]; exact rfl)
    obtain ⟨hli, hgi⟩ := mem_hueL.1 hm0
    have hob := hli.obj
    have hi0 := hli.1
    have hil : i < (s.x.col.length : Int) := by have := hli.lt; rw [h.cl]; omega
    have hl : ∀ v ∈ objAt s.os i, InR s.x.col.length v := fun v hv => h.inr _ _ hob v hv
    have hsl : i < ((shades s.x.col (objAt s.os i)).length : Int) := by rw [shades_len]; exact hil
    have hat : ∀ j, 0 ≤ j → cAt ((shades s.x.col (objAt s.os i)).set i.toNat 2) j = if j = i then 2 else cAt (shades s.x.col (objAt s.os i)) j := fun j hj => cAt_set _ hi0 hsl hj 2
    have hhit : ∀ v ∈ objAt s.os i, v.ref = true → cAt ((shades s.x.col (objAt s.os i)).set i.toNat 2) v.n ≠ 0 := by
      intro v hv hr
      rw [hat _ (hl v hv hr).1]
      split
      · decide
      · exact shades_hit hl hv hr
    have hm : Mono s.os s.x.col s.os ((shades s.x.col (objAt s.os i)).set i.toNat 2) := by
      refine ⟨fun j h0 hj => ?_, fun j hj => hj, fun p l v h0 hp hv hr h1 h2 => ?_, fun p l v h0 hp hv hr => .inr ⟨l, hp, hv⟩⟩
      · rw [hat j h0]
        split
        · decide
        · rw [shades_keep hl h0 hj]; exact hj
      · rw [hat p h0] at h2
        split at h2
        · rename_i e
          subst e
          have : l = objAt s.os p := by unfold objAt; rw [hp]; rfl
          subst this
          exact hhit v hv hr
        · exact absurd (shades_two hl h0 h2) h1
    have hh : Hues ((shades s.x.col (objAt s.os i)).set i.toNat 2) := (h.hues.shades _).set _ (.inr (.inr rfl))
    refine ⟨h.fine, by show (List.set _ _ _).length = _; rw [List.length_set, shades_len]; exact h.cl, h.len, h.led, hh, ⟨fun hb => ?_, fun hb => ?_⟩, h.nodup, h.gone⟩
    · have hS := h.bar.1 hb
      refine ⟨fun v hv hr => hm.kp hh h.inr (h.regR v hv hr).1 (hS.regs v hv hr), fun j l v hlj h2 hv hr => ?_⟩
      change cAt ((shades s.x.col (objAt s.os i)).set i.toNat 2) (j : Int) = 2 at h2
      rw [hat _ (by omega)] at h2
      split at h2
      · rename_i e
        subst e
        have : l = objAt s.os (j : Int) := by rw [objAt_nat hlj]
        subst this
        exact .inl (hhit v hv hr)
      · exact hm.kp hh h.inr (h.inr j l hlj v hv hr).1 (hS.black j l v hlj (shades_two hl (by omega) h2) hv hr)
    · intro j l v hlj h2 hv hr
      change cAt ((shades s.x.col (objAt s.os i)).set i.toNat 2) (j : Int) = 2 at h2
      rw [hat _ (by omega)] at h2
      split at h2
      · rename_i e
        subst e
        have : l = objAt s.os (j : Int) := by rw [objAt_nat hlj]
        subst this
        exact hhit v hv hr
      · exact hm.m1 _ (h.inr j l hlj v hv hr).1 (h.bar.2 hb j l v hlj (shades_two hl (by omega) h2) hv hr)
/-- Where no grey one is left, what registers lead to is no white one. -/
theorem InvT.marked {b : Int} {s : Sm Tx} (h : InvT b s) (hg : hueL s.os (shades s.x.col s.regs) 1 s.os.length = []) {i : Int} (hi : RchM s.regs s.os i) : cAt (shades s.x.col s.regs) i ≠ 0 := by
  have hB := bar_shades h h.regR
  have hh := h.hues.shades s.regs
  by_cases hb : b = 3
  · rcases (hB.1 hb).led hh h.led hi with h1 | h1
    · exact h1
    · exact (no_prot hg h1).elim
  · have : cAt (shades s.x.col s.regs) i ≠ 0 ∧ RchM s.regs s.os i := by
      refine hi.least (P := fun i => cAt (shades s.x.col s.regs) i ≠ 0 ∧ RchM s.regs s.os i) (fun v hv hr => ⟨shades_hit h.regR hv hr, .root hv hr⟩) ?_
      rintro j l ⟨h1, h2⟩ hl v hv hr
      have hlj := h.led j h2
      have h3 : cAt (shades s.x.col s.regs) j = 2 := by
        rcases hh.at j with h4 | h4 | h4
        · exact absurd h4 h1
        · have : j ∈ hueL s.os (shades s.x.col s.regs) 1 s.os.length := mem_hueL.2 ⟨hlj, h4⟩
          rw [hg] at this; cases this
        · exact h4
      exact ⟨hB.2 hb j.toNat l v hl (by rw [Int.toNat_of_nonneg hlj.1]; exact h3) hv hr, .step h2 hl hv hr⟩
    exact this.1
/-- A sweep. -/
theorem sweep_kin {b : Int} {s : Sm Tx} (h : InvT b s) : Kin (bare (sweepS s).1) (bare s) := by
  unfold sweepS
  split
  · exact Kin.refl _
  · rename_i hg
    have hg' : hueL s.os (shades s.x.col s.regs) 1 s.os.length = [] := Classical.byContradiction hg
    refine ⟨rfl, kill_len _ _, fun i hi => ?_⟩
    show (killL s.os _)[i.toNat]? = s.os[i.toNat]?
    have hli := h.led i hi
    rw [kill_get _ _ (fun x hx => (mem_hueL.1 hx).1.1), if_neg]
    rintro ⟨h1, _⟩
    rw [Int.toNat_of_nonneg hli.1] at h1
    exact h.marked hg' hi (mem_hueL.1 h1).2
theorem hueL_nodup (os : Os) (c : List Int) (h : Int) (k : Nat) : (hueL os c h k).Nodup := by
  unfold hueL
  exact (List.Pairwise.imp (fun hlt => by omega) (thereL_rising os k)).sublist List.filter_sublist
theorem InvT.sweep {b : Int} {s : Sm Tx} (h : InvT b s) : InvT b (sweepS s).1 := by
  have hk := sweep_kin h
  unfold sweepS at hk ⊢
  split
  · exact ⟨h.fine, by show (shades _ _).length = _; rw [shades_len]; exact h.cl, h.len, h.led, h.hues.shades _, bar_shades h h.regR, h.nodup, h.gone⟩
  · rename_i hg
    rw [if_neg hg] at hk
    have hWn : ∀ x ∈ hueL s.os (shades s.x.col s.regs) 0 s.os.length, 0 ≤ x := fun x hx => (mem_hueL.1 hx).1.1
    obtain ⟨Wl, hWl⟩ : ∃ Wl, hueL s.os (shades s.x.col s.regs) 0 s.os.length = Wl := ⟨_, rfl⟩
    have hWm : ∀ x, x ∈ Wl → Lives s.os x := fun x hx => by rw [← hWl] at hx; exact (mem_hueL.1 hx).1
    have hWd : Wl.Nodup := by rw [← hWl]; exact hueL_nodup _ _ _ _
    rw [hWl] at hk hWn ⊢
    have hget := kill_get s.os Wl hWn
    have hshr : ∀ (i : Nat) (l : List V), (killL s.os Wl)[i]? = some (some l) → s.os[i]? = some (some l) := by
      intro i l hl
      rw [hget] at hl
      split at hl
      · cases hl
      · exact hl
    have hlen : (killL s.os Wl).length = s.os.length := kill_len _ _
    have hled : ∀ i, RchM s.regs (killL s.os Wl) i → Lives (killL s.os Wl) i := by
      intro i hi
      have h1 : RchM s.regs s.os i := hk.rch.1 hi
      exact (hk.lives h1).2 (h.led i h1)
    have hlv : ∀ x, Lives (killL s.os Wl) x ↔ Lives s.os x ∧ x ∉ Wl := by
      intro x
      constructor
      · rintro ⟨h0, l, hl⟩
        refine ⟨⟨h0, l, hshr _ _ hl⟩, fun hx => ?_⟩
        have hlt := (List.getElem?_eq_some_iff.1 (hshr _ _ hl)).1
        rw [hget, if_pos ⟨by rw [Int.toNat_of_nonneg h0]; exact hx, hlt⟩] at hl
        cases hl
      · rintro ⟨⟨h0, l, hl⟩, hx⟩
        refine ⟨h0, l, ?_⟩
        rw [hget, if_neg (fun h => hx (by have := h.1; rwa [Int.toNat_of_nonneg h0] at this))]
        exact hl
    have hat : ∀ j, 0 ≤ j → cAt (beginC s.x.col.length s.regs) j = if j ∈ targets s.regs then 1 else 0 := fun j hj => beginC_at h.regR hj
    refine ⟨⟨h.fine.regs8, fun v hv => ⟨fun hr => hled _ (.root hv hr), (h.fine.regs v hv).2⟩, fun i l hl => h.fine.flen i l (hshr i l hl), fun i l hl => h.fine.num i l (hshr i l hl), fun i l hl v hv hr => ?_⟩, ?_, ?_, hled, beginC_hues _ _, ⟨fun _ => ⟨?_, ?_⟩, fun _ => ?_⟩, ?_, ?_⟩
    · show 0 ≤ v.n ∧ v.n < ((killL s.os Wl).length : Int)
      rw [hlen]; exact h.fine.rng i l (hshr i l hl) v hv hr
    · show (beginC _ _).length = (killL _ _).length
      rw [beginC_len, hlen]; exact h.cl
    · show (killL _ _).length ≤ 900
      rw [hlen]; exact h.len
    · intro v hv hr
      left
      rw [hat _ (h.regR v hv hr).1, if_pos (by unfold targets; exact List.mem_map.2 ⟨v, List.mem_filter.2 ⟨hv, hr⟩, rfl⟩)]
      decide
    · intro i l v _ h2 _ _
      change cAt (beginC s.x.col.length s.regs) (i : Int) = 2 at h2
      rw [hat _ (by omega)] at h2
      split at h2 <;> cases h2
    · intro i l v _ h2 _ _
      change cAt (beginC s.x.col.length s.regs) (i : Int) = 2 at h2
      rw [hat _ (by omega)] at h2
      split at h2 <;> cases h2
    · show (s.x.gone ++ Wl).Nodup
      rw [List.nodup_append]
      refine ⟨h.nodup, hWd, ?_⟩
      rintro x hx y hy rfl
      exact ((h.gone x).1 hx).2.2 (hWm x hy)
    · intro x
      show x ∈ s.x.gone ++ Wl ↔ 0 ≤ x ∧ x < ((killL s.os Wl).length : Int) ∧ ¬ Lives (killL s.os Wl) x
      rw [List.mem_append, h.gone, hlen, hlv]
      constructor
      · rintro (⟨h1, h2, h3⟩ | h1)
        · exact ⟨h1, h2, fun h4 => h3 h4.1⟩
        · have h2 := hWm x h1
          have h3 := h2.lt
          have h4 := h2.1
          exact ⟨h4, by omega, fun h5 => h5.2 h1⟩
      · rintro ⟨h1, h2, h3⟩
        by_cases h4 : Lives s.os x
        · by_cases h5 : x ∈ Wl
          · exact .inr h5
          · exact absurd ⟨h4, h5⟩ h3
        · exact .inl ⟨h1, h2, h4⟩
/-- Registers' turn, a field's turn, one more. -/
theorem InvT.set {b : Int} {s : Sm Tx} (h : InvT b s) {r : Int} {v : V} (hv : OkV s.os v) (hr : v.ref = true → RchM s.regs s.os v.n) : InvT b ((tKd b).set s r v) := by
  refine ⟨h.fine.setReg _ hv, h.cl, h.len, fun i hi => h.led i (rch_set hr hi), h.hues, ⟨fun hb => ?_, fun hb => h.bar.2 hb⟩, h.nodup, h.gone⟩
  have hS := h.bar.1 hb
  refine ⟨fun u hu hur => ?_, hS.black⟩
  rcases List.mem_or_eq_of_mem_set hu with hu | rfl
  · exact hS.regs u hu hur
  · exact h.kp hb (hr hur)
theorem InvT.newS {b : Int} {s : Sm Tx} (h : InvT b s) (hl9 : s.os.length < 900) {n : Nat} (hn : n ≤ 4) (r : Int) : InvT b ((tKd b).set ⟨s.regs, s.os ++ [some (zerosV n)], ⟨s.x.col ++ [2], s.x.gone⟩⟩ r ⟨true, (s.os.length : Int)⟩) := by
  have hcat : ∀ j, 0 ≤ j → j < (s.os.length : Int) → cAt (s.x.col ++ [2]) j = cAt s.x.col j := by
    intro j h0 h1
    unfold cAt
    rw [List.getD_eq_getElem?_getD, List.getD_eq_getElem?_getD, List.getElem?_append_left (by rw [h.cl]; omega)]
  have hcn : cAt (s.x.col ++ [2]) (s.os.length : Int) = 2 := by
    unfold cAt
    rw [List.getD_eq_getElem?_getD, Int.toNat_natCast, List.getElem?_append_right (by rw [h.cl]; exact Nat.le_refl _), h.cl]; simp
  have hlow : ∀ j, 0 ≤ j → cAt s.x.col j ≠ 0 → j < (s.os.length : Int) := by
    intro j h0 hj
    refine Classical.byContradiction fun hn => hj ?_
    unfold cAt
    rw [List.getD_eq_getElem?_getD, List.getElem?_eq_none (by rw [h.cl]; omega)]; rfl
  have hh : Hues (s.x.col ++ [2]) := by
    intro x hx
    rw [List.mem_append, List.mem_singleton] at hx
    rcases hx with hx | rfl
    · exact h.hues x hx
    · exact .inr (.inr rfl)
  have hold : ∀ (i : Nat) (l : List V), (s.os ++ [some (zerosV n)])[i]? = some (some l) → (s.os[i]? = some (some l) ∧ i < s.os.length) ∨ (l = zerosV n) := by
    intro i l hl
    rcases push_get hl with h1 | h1
    · exact .inl ⟨h1, (List.getElem?_eq_some_iff.1 h1).1⟩
    · exact .inr h1
  have hm : Mono s.os s.x.col (s.os ++ [some (zerosV n)]) (s.x.col ++ [2]) := by
    refine ⟨fun i h0 hi => by rw [hcat i h0 (hlow i h0 hi)]; exact hi, fun i hi => hi.push _, fun p l v h0 hp hv hr h1 h2 => ?_, fun p l v h0 hp hv hr => .inr ⟨l, ?_, hv⟩⟩
    · have := (List.getElem?_eq_some_iff.1 hp).1
      rw [hcat p h0 (by omega)] at h2
      exact absurd h2 h1
    · rw [List.getElem?_append_left (List.getElem?_eq_some_iff.1 hp).1]; exact hp
  refine ⟨(h.fine.push hn).setReg _ ⟨fun _ => lives_new _ _, fun h => by cases h⟩, ?_, ?_, ?_, hh, ⟨fun hb => ⟨?_, ?_⟩, fun hb => ?_⟩, h.nodup, ?_⟩
  · show (s.x.col ++ [2]).length = (s.os ++ [_]).length
    simp [h.cl]
  · show (s.os ++ [_]).length ≤ 900
    simp; omega
  · intro i hi
    rcases rch_new hi with h1 | rfl
    · exact (h.led i h1).push _
    · exact lives_new _ _
  · intro v hv hr
    rcases List.mem_or_eq_of_mem_set hv with hv | rfl
    · exact hm.kp hh h.inr (h.regR v hv hr).1 ((h.bar.1 hb).regs v hv hr)
    · left
      show cAt (s.x.col ++ [2]) (s.os.length : Int) ≠ 0
      rw [hcn]; decide
  · intro i l v hl h2 hv hr
    rcases hold i l hl with ⟨h1, h3⟩ | rfl
    · change cAt (s.x.col ++ [2]) (i : Int) = 2 at h2
      rw [hcat _ (by omega) (by omega)] at h2
      exact hm.kp hh h.inr (h.inr i l h1 v hv hr).1 ((h.bar.1 hb).black i l v h1 h2 hv hr)
    · rw [mem_zeros hv] at hr; cases hr
  · intro i l v hl h2 hv hr
    rcases hold i l hl with ⟨h1, h3⟩ | rfl
    · change cAt (s.x.col ++ [2]) (i : Int) = 2 at h2
      rw [hcat _ (by omega) (by omega)] at h2
      exact hm.m1 _ (h.inr i l h1 v hv hr).1 (h.bar.2 hb i l v h1 h2 hv hr)
    · rw [mem_zeros hv] at hr; cases hr
  · intro x
    show x ∈ s.x.gone ↔ 0 ≤ x ∧ x < ((s.os ++ [some (zerosV n)]).length : Int) ∧ ¬ Lives (s.os ++ [some (zerosV n)]) x
    rw [h.gone, List.length_append]
    have hpush : ∀ x : Int, x < s.os.length → (Lives (s.os ++ [some (zerosV n)]) x ↔ Lives s.os x) := by
      intro x hx
      constructor
      · rintro ⟨h2, l, hl⟩
        rw [List.getElem?_append_left (by omega)] at hl
        exact ⟨h2, l, hl⟩
      · exact fun h => h.push _
    constructor
    · rintro ⟨h2, h3, h4⟩
      exact ⟨h2, by simp; omega, fun h => h4 ((hpush x h3).1 h)⟩
    · rintro ⟨h2, h3, h4⟩
      have h3' : x < (s.os.length : Int) + 1 := by simpa using h3
      by_cases e : x = (s.os.length : Int)
      · exact absurd (e ▸ lives_new s.os (zerosV n)) h4
      · have h5 : x < (s.os.length : Int) := by omega
        exact ⟨h2, h5, fun h => h4 ((hpush x h5).2 h)⟩
theorem InvT.putT {b : Int} {s : Sm Tx} (h : InvT b s) (hb3 : b = 1 ∨ b = 2 ∨ b = 3) {i : Int} (hi : Lives s.os i) (hir : RchM s.regs s.os i) {k : Nat} (hk : k < (objAt s.os i).length) {u : V} (hu : OkV s.os u) (hur : u.ref = true → RchM s.regs s.os u.n) : InvT b ((tKd b).put s i k u) := by
  have hob := hi.obj
  have hg : (objAt s.os i)[k]? = some ((objAt s.os i).getD k ⟨false, 0⟩) := by rw [List.getD_eq_getElem?_getD, List.getElem?_eq_getElem hk]; rfl
  obtain ⟨old, ho⟩ : ∃ old, (objAt s.os i).getD k ⟨false, 0⟩ = old := ⟨_, rfl⟩
  rw [ho] at hg
  have hoR : InR s.x.col.length old := h.inr _ _ hob old (List.mem_of_getElem? hg)
  have huR : InR s.x.col.length u := fun hr => by
    have h1 := hu.1 hr
    have h2 := h1.lt
    have h3 := h1.1
    rw [h.cl]; exact ⟨h3, by omega⟩
  have hi0 := hi.1
  have hil : i < (s.x.col.length : Int) := by have := hi.lt; rw [h.cl]; omega
  have hlv : ∀ x, Lives (s.os.set i.toNat (some ((objAt s.os i).set k u))) x ↔ Lives s.os x := by
    intro x
    constructor
    · rintro ⟨h0, l, hl⟩
      by_cases e : i.toNat = x.toNat
      · exact ⟨h0, _, by rw [← e]; exact hob⟩
      · rw [List.getElem?_set_ne e] at hl; exact ⟨h0, l, hl⟩
    · exact fun h => h.put _
  have hcl : (barC b s.x.col i old u).length = s.x.col.length := by
    unfold barC
    repeat' split
    all_goals first | rfl | exact shade_len _ _ | exact List.length_set ..
  have hh : Hues (barC b s.x.col i old u) := by
    unfold barC
    repeat' split
    all_goals first | exact h.hues | exact h.hues.shade _ | exact h.hues.set _ (.inr (.inl rfl))
  have hold : ∀ (j : Nat) (l : List V), (s.os.set i.toNat (some ((objAt s.os i).set k u)))[j]? = some (some l) → (s.os[j]? = some (some l) ∧ (j : Int) ≠ i) ∨ ((j : Int) = i ∧ l = (objAt s.os i).set k u) := by
    intro j l hl
    by_cases e : i.toNat = j
    · right
      rw [← e, List.getElem?_set_self hi.lt] at hl
      exact ⟨by omega, (Option.some.inj (Option.some.inj hl)).symm⟩
    · left
      rw [List.getElem?_set_ne e] at hl
      exact ⟨hl, by omega⟩
  have hput : (tKd b).put s i k u = ⟨s.regs, s.os.set i.toNat (some ((objAt s.os i).set k u)), ⟨barC b s.x.col i old u, s.x.gone⟩⟩ := by
    show (⟨_, _, ⟨barC b s.x.col i _ u, _⟩⟩ : Sm Tx) = _
    rw [ho]
  rw [hput]
  have hnbw : b ≠ 3 → Nbw (s.os.set i.toNat (some ((objAt s.os i).set k u))) (barC b s.x.col i old u) := by
    intro hb
    have hN := h.bar.2 hb
    intro j l v hl h2 hv hr
    rcases hb3 with rfl | rfl | rfl
    · have e1 : barC 1 s.x.col i old u = shade s.x.col u := by unfold barC; rw [if_pos rfl]
      rw [e1] at h2 ⊢
      have h3 := shade_two huR (by omega) h2
      rcases hold j l hl with ⟨h4, _⟩ | ⟨h4, rfl⟩
      · have h5 := hN j l v h4 h3 hv hr
        rw [shade_keep huR (h.inr j l h4 v hv hr).1 h5]; exact h5
      · rcases List.mem_or_eq_of_mem_set hv with hv | rfl
        · have h5 := hN i.toNat _ v hob (by rw [Int.toNat_of_nonneg hi0, ← h4]; exact h3) hv hr
          rw [shade_keep huR (h.inr _ _ hob v hv hr).1 h5]; exact h5
        · exact shade_hit huR hr
    · have e1 : barC 2 s.x.col i old u = (if cAt s.x.col i = 2 ∧ (u.ref = true ∧ cAt s.x.col u.n = 0) then s.x.col.set i.toNat 1 else s.x.col) := by unfold barC; rw [if_neg (by decide), if_pos rfl]
      rw [e1] at h2 ⊢
      split at h2
      · rename_i hc
        rw [if_pos hc]
        rw [cAt_set _ hi0 hil (by omega)] at h2
        split at h2
        · cases h2
        · rename_i hji
          rcases hold j l hl with ⟨h4, _⟩ | ⟨h4, _⟩
          · have h5 := hN j l v h4 h2 hv hr
            rw [cAt_set _ hi0 hil (h.inr j l h4 v hv hr).1]
            split
            · decide
            · exact h5
          · exact absurd h4 hji
      · rename_i hc
        rw [if_neg hc]
        rcases hold j l hl with ⟨h4, _⟩ | ⟨h4, rfl⟩
        · exact hN j l v h4 h2 hv hr
        · rw [h4] at h2
          rcases List.mem_or_eq_of_mem_set hv with hv | rfl
          · exact hN i.toNat _ v hob (by rw [Int.toNat_of_nonneg hi0]; exact h2) hv hr
          · exact fun e => hc ⟨h2, hr, e⟩
    · exact absurd rfl hb
  have hsnap : b = 3 → Snap s.regs (s.os.set i.toNat (some ((objAt s.os i).set k u))) (barC b s.x.col i old u) := by
    intro hb
    have hS := h.bar.1 hb
    have e1 : barC b s.x.col i old u = shade s.x.col old := by unfold barC; rw [if_neg (by omega), if_neg (by omega)]
    rw [e1] at hh ⊢
    have hm : Mono s.os s.x.col (s.os.set i.toNat (some ((objAt s.os i).set k u))) (shade s.x.col old) := by
      refine ⟨fun j h0 hj => by rw [shade_keep hoR h0 hj]; exact hj, fun j hj => (hlv j).2 hj, fun p l v h0 hp hv hr h1 h2 => absurd (shade_two hoR h0 h2) h1, fun p l v h0 hp hv hr => ?_⟩
      by_cases e : p = i
      · subst e
        have : l = objAt s.os p := by unfold objAt; rw [hp]; rfl
        subst this
        by_cases e2 : v = old
        · left; rw [e2] at hr ⊢; exact shade_hit hoR hr
        · right
          refine ⟨_, List.getElem?_set_self hi.lt, ?_⟩
          obtain ⟨q, hq⟩ := List.getElem?_of_mem hv
          refine List.mem_of_getElem? (i := q) ?_
          rw [List.getElem?_set_ne]
          · exact hq
          · rintro rfl
            rw [hg] at hq
            exact e2 (Option.some.inj hq).symm
      · right
        exact ⟨l, by rw [List.getElem?_set_ne (by omega)]; exact hp, hv⟩
    refine ⟨fun v hv hr => hm.kp hh h.inr (h.regR v hv hr).1 (hS.regs v hv hr), fun j l v hl h2 hv hr => ?_⟩
    have h3 := shade_two hoR (by omega) h2
    rcases hold j l hl with ⟨h4, _⟩ | ⟨h4, rfl⟩
    · exact hm.kp hh h.inr (h.inr j l h4 v hv hr).1 (hS.black j l v h4 h3 hv hr)
    · rcases List.mem_or_eq_of_mem_set hv with hv | rfl
      · exact hm.kp hh h.inr (h.inr _ _ hob v hv hr).1 (hS.black i.toNat _ v hob (by rw [Int.toNat_of_nonneg hi0, ← h4]; exact h3) hv hr)
      · exact hm.kp hh h.inr (huR hr).1 (h.kp hb (hur hr))
  refine ⟨h.fine.put hi k hu, ?_, ?_, fun j hj => (hlv j).2 (h.led j (rch_put hi hir hur hj)), hh, ⟨hsnap, hnbw⟩, h.nodup, ?_⟩
  · show (barC _ _ _ _ _).length = (s.os.set _ _).length
    rw [hcl, List.length_set]; exact h.cl
  · show (s.os.set _ _).length ≤ 900
    rw [List.length_set]; exact h.len
  · intro x
    show x ∈ s.x.gone ↔ 0 ≤ x ∧ x < ((s.os.set _ _).length : Int) ∧ ¬ Lives (s.os.set i.toNat (some ((objAt s.os i).set k u))) x
    rw [List.length_set, hlv]; exact h.gone x
end Go.Proofs.Ytmmcjjklmcfegaa

/- How many are made. Plain. -/
namespace Go.Proofs.Ytmmcjjklmcfegaa

theorem ikd_len (s : Sm Unit) (d : Dd) : (iKd.step s d).1.os.length = s.os.length + if d.kind = 1 ∧ (iKd.step s d).2.code = 0 then 1 else 0 := by
  unfold Kd.step
  split
  · rename_i hw
    rw [if_neg (fun h => hw h.2)]; rfl
  · split
    · rename_i e1
      show (s.os ++ [_]).length = _
      rw [if_pos ⟨e1, rfl⟩]; simp
    · rename_i e1
      have h0 : ∀ c : Int, (if d.kind = 1 ∧ c = 0 then 1 else 0 : Nat) = 0 := fun c => if_neg (fun h => e1 h.1)
      split
      · rw [h0]; rfl
      · split
        · rw [h0]; rfl
        · split
          · split
            · rw [h0]; rfl
            · rw [h0]; show (s.os.set _ _).length = _; rw [List.length_set]; rfl
          · split
            · split
              · rw [h0]; rfl
              · rw [h0]; rfl
            · split
              · rw [h0]; rfl
              · rw [h0]; rfl
theorem Tells.len {X : Type} {st : Sm X → Dd → Sm X × Ot} {W : Int → Bool} {s : Sm X} {d : Dd} (h : Tells st W s d) (hW : W 1 = false) : (st s d).1.os.length = s.os.length + if d.kind = 1 ∧ (st s d).2.code = 0 then 1 else 0 := by
  by_cases h1 : W d.kind = true ∨ (st s d).2.code = 6
  · have := (h.own h1).len
    rw [if_neg]
    · exact this
    · rintro ⟨h2, h3⟩
      rcases h1 with h1 | h1
      · rw [h2, hW] at h1; cases h1
      · rw [h3] at h1; cases h1
  · have h2 : W d.kind = false := by
      cases hc : W d.kind with
      | true => exact absurd (.inl hc) h1
      | false => rfl
    obtain ⟨h3, h4⟩ := h.pure_ h2 (fun e => h1 (.inr e))
    rw [h3]
    exact h4.len.trans (ikd_len (bare s) d)
theorem runs_made {X : Type} (st : Sm X → Dd → Sm X × Ot) (W : Int → Bool) (hW : W 1 = false) (s0 : Sm X) (ds : List Dd) (hT : ∀ k d, ds[k]? = some d → Tells st W (runs st s0 (ds.take k)).1 d) :
    ∀ k, k ≤ ds.length → (runs st s0 (ds.take k)).1.os.length = s0.os.length + madeN (ds.take k) (runs st s0 (ds.take k)).2 := by
  intro k
  induction k with
  | zero => intro _; rfl
  | succ k ih =>
    intro hk
    have h1 := ih (by omega)
    obtain ⟨d, hd⟩ : ∃ d, ds[k]? = some d := ⟨ds[k]'(by omega), List.getElem?_eq_getElem (by omega)⟩
    have h2 := (hT k d hd).len hW
    rw [take_succ_some _ _ _ hd, runs_snoc]
    obtain ⟨S, hS⟩ : ∃ S, runs st s0 (ds.take k) = S := ⟨_, rfl⟩
    have hl : (ds.take k).length = S.2.length := by rw [← hS, runs_len]
    rw [hS] at h1 h2 ⊢
    simp only
    rw [h2, h1]
    unfold madeN
    rw [List.zip_append hl, List.countP_append]
    simp only [List.zip_cons_cons, List.zip_nil_right, List.countP_cons, List.countP_nil, Nat.zero_add, Bool.and_eq_true, decide_eq_true_eq]
    omega
/-- What is told of the front is the front of what is told. -/
theorem runs_front {X : Type} (st : Sm X → Dd → Sm X × Ot) (s0 : Sm X) (ds : List Dd) (n : Nat) : (runs st s0 (ds.take n)).2 <+: (runs st s0 ds).2 := by
  have h := runs_append st s0 (ds.take n) (ds.drop n)
  rw [List.take_append_drop] at h
  rw [h]
  exact List.prefix_append _ _
end Go.Proofs.Ytmmcjjklmcfegaa

/- Colours: runs; what is told. Plain. -/
namespace Go.Proofs.Ytmmcjjklmcfegaa

/-- What each way of a step keeps, a step keeps; what is taken can be come to. -/
theorem step_keepR {X : Type} (K : Kd X) (J : Sm X → Prop) (s : Sm X) (d : Dd) (hIJ : J s) (hF : Fine s.regs s.os)
    (fld : ∀ v u, v ∈ s.regs → v.ref = true → u ∈ objAt s.os v.n → OkV s.os u)
    (hset : ∀ (r : Int) v, 0 ≤ r → r < 8 → OkV s.os v → (v.ref = true → RchM s.regs s.os v.n) → J (K.set s r v))
    (hput : ∀ i (k : Nat) u, Lives s.os i → RchM s.regs s.os i → k < (objAt s.os i).length → OkV s.os u → (u.ref = true → RchM s.regs s.os u.n) → J (K.put s i k u))
    (hnewN : ∀ n : Nat, n ≤ 4 → (K.new s n).2 = none → J (K.new s n).1)
    (hnewS : ∀ (n : Nat) o (r : Int), n ≤ 4 → 0 ≤ r → r < 8 → (K.new s n).2 = some o → J (K.set (K.new s n).1 r ⟨true, o⟩)) : J (K.step s d).1 := by
  unfold Kd.step
  split
  · exact hIJ
  · rename_i hw
    have hw0 : wrongC d = 0 := Classical.byContradiction hw
    obtain ⟨k1, k7, hto, hfr, hn, hn2⟩ := wrong_zero hw0
    split
    · rename_i e1
      have hn4 := hn e1
      have ht := hto (by omega)
      have a1 := hnewN d.n.toNat (by omega)
      have a2 := hnewS d.n.toNat
      split
      · rename_i t ht'
        rw [ht'] at a1; exact a1 rfl
      · rename_i t o ht'
        have := a2 o d.to_ (by omega) ht.1 ht.2 (by rw [ht'])
        rw [ht'] at this; exact this
    · split
      · rename_i e2
        have ht := hto (by omega)
        exact hset _ _ ht.1 ht.2 ⟨(fun h => by cases h), fun _ => hn2 e2⟩ (fun h => by cases h)
      · have hf := hfr (by omega)
        have hokf := hF.reg hf.1 hf.2
        have hmf := mem_reg hF.regs8 hf.1 hf.2
        have hrf : (reg s.regs d.frm).ref = true → RchM s.regs s.os (reg s.regs d.frm).n := fun hr => .root hmf hr
        split
        · have ht := hto (by omega)
          exact hset _ _ ht.1 ht.2 hokf hrf
        · split
          · have ht := hto (by omega)
            have hmt := mem_reg hF.regs8 ht.1 ht.2
            split
            · exact hIJ
            · rename_i hfc
              have hfc0 : fieldC s.os (Proofs.Ytmmcjjklmcfegaa.reg s.regs d.to_) d.at_ = 0 := Classical.byContradiction hfc
              obtain ⟨f1, f2, f3⟩ := field_zero hfc0
              exact hput _ _ _ ((hF.reg ht.1 ht.2).1 f1) (.root hmt f1) (by omega) hokf hrf
          · split
            · have ht := hto (by omega)
              split
              · exact hIJ
              · rename_i hfc
                have hfc0 : fieldC s.os (Proofs.Ytmmcjjklmcfegaa.reg s.regs d.frm) d.at_ = 0 := Classical.byContradiction hfc
                obtain ⟨f1, f2, f3⟩ := field_zero hfc0
                have hmm : (objAt s.os (Proofs.Ytmmcjjklmcfegaa.reg s.regs d.frm).n).getD d.at_.toNat ⟨false, 0⟩ ∈ objAt s.os (Proofs.Ytmmcjjklmcfegaa.reg s.regs d.frm).n := by
                  rw [List.getD_eq_getElem?_getD, List.getElem?_eq_getElem (by omega)]
                  exact List.getElem_mem _
                exact hset _ _ ht.1 ht.2 (fld _ _ hmf f1 hmm) (fun hr => .step (hrf f1) (hokf.1 f1).obj hmm hr)
            · split
              · exact hIJ
              · exact hIJ
theorem InvT.step {b : Int} (hb : b = 1 ∨ b = 2 ∨ b = 3) {s : Sm Tx} (h : InvT b s) (hl : s.os.length < 900) (d : Dd) : InvT b (tstep b s d).1 := by
  unfold tstep
  split
  · exact h.work
  · split
    · exact h.sweep
    · refine step_keepR (tKd b) (InvT b) s d h h.fine (fun v u => h.fld) (fun r v _ _ hv hr => h.set hv hr) (fun i k u hi hir hk hu hur => h.putT hb hi hir hk hu hur) ?_ ?_
      · intro n hn he
        unfold tKd at he ⊢
        simp only at he ⊢
        split at he
        · rename_i hc; rw [if_pos hc]; exact h
        · cases he
      · intro n o r hn _ _ he
        unfold tKd at he ⊢
        simp only at he ⊢
        split at he
        · cases he
        · rename_i hc
          rw [if_neg hc]
          have he := Option.some.inj he
          subst he
          exact h.newS hl hn r
theorem work_os (s : Sm Tx) : (workS s).1.regs = s.regs ∧ (workS s).1.os = s.os ∧ (workS s).1.x.gone = s.x.gone := by
  unfold workS
  split <;> exact ⟨rfl, rfl, rfl⟩
theorem sweep_os (s : Sm Tx) : (sweepS s).1.regs = s.regs ∧ (sweepS s).1.os.length = s.os.length ∧ s.x.gone <+: (sweepS s).1.x.gone := by
  unfold sweepS
  split
  · exact ⟨rfl, rfl, List.prefix_refl _⟩
  · exact ⟨rfl, kill_len _ _, List.prefix_append _ _⟩
theorem InvT.tells {b : Int} {s : Sm Tx} (h : InvT b s) (d : Dd) : Tells (tstep b) (wB [8, 9]) s d := by
  have hkw : Kin (bare (workS s).1) (bare s) := by
    obtain ⟨h1, h2, _⟩ := work_os s
    have : bare (workS s).1 = bare s := by unfold bare; rw [h1, h2]
    rw [this]; exact Kin.refl _
  have hks := sweep_kin h
  by_cases h8 : d.kind = 8
  · have e : (tstep b s d).1 = (workS s).1 := by unfold tstep; rw [if_pos h8]
    refine ⟨fun _ => by rw [e]; exact hkw, fun hw => ?_⟩
    rw [h8] at hw; cases hw
  · by_cases h9 : d.kind = 9
    · have e : (tstep b s d).1 = (sweepS s).1 := by unfold tstep; rw [if_neg h8, if_pos h9]
      refine ⟨fun _ => by rw [e]; exact hks, fun hw => ?_⟩
      rw [h9] at hw; cases hw
    · have e : tstep b s d = (tKd b).step s d := by unfold tstep; rw [if_neg h8, if_neg h9]
      have hW : wB [8, 9] d.kind = false := by unfold wB; simp [h8, h9]
      have hT := kd_tells (tKd b) (wB [8, 9]) s d h.fine hW (fun v u => h.fld) (fun r v _ _ _ _ => Kin.refl _) (fun i k u _ _ _ _ _ => Kin.refl _) ?_ ?_
      · refine ⟨fun ho => ?_, fun hw h6 => ?_⟩
        · rw [e] at ho ⊢; exact hT.own ho
        · rw [e] at h6 ⊢; exact hT.pure_ hw h6
      · intro n hn he
        unfold tKd at he ⊢
        simp only at he ⊢
        split at he
        · rename_i hc; rw [if_pos hc]; exact Kin.refl _
        · cases he
      · intro n o r hn _ _ he
        unfold tKd at he ⊢
        simp only at he ⊢
        split at he
        · cases he
        · rename_i hc
          rw [if_neg hc]
          have he := Option.some.inj he
          subst he
          exact Kin.refl _
theorem InvT.step_len {b : Int} {s : Sm Tx} (h : InvT b s) (d : Dd) : (tstep b s d).1.os.length ≤ s.os.length + 1 := by
  have := (h.tells d).len rfl
  rw [this]; split <;> omega
theorem InvT.step_gone {b : Int} {s : Sm Tx} (h : InvT b s) (d : Dd) : s.x.gone <+: (tstep b s d).1.x.gone := by
  unfold tstep
  split
  · show _ <+: (workS s).1.x.gone
    rw [(work_os s).2.2]; exact List.prefix_refl _
  · split
    · exact (sweep_os s).2.2
    · refine step_keep (tKd b) (fun t => s.x.gone <+: t.x.gone) s d (List.prefix_refl _) h.fine (fun v u => h.fld) (fun _ _ _ _ _ => List.prefix_refl _) (fun _ _ _ _ _ _ => List.prefix_refl _) ?_ ?_
      · intro n hn he
        unfold tKd
        simp only
        split <;> exact List.prefix_refl _
      · intro n o r hn _ _ he
        unfold tKd Kd.set
        simp only
        split <;> exact List.prefix_refl _
def startT (g : G) : Sm Tx := ⟨firstR g.roots, g.objs.map some, ⟨beginC g.objs.length (firstR g.roots), []⟩⟩
theorem startT_inv {g : G} (hG : Good g) (b : Int) : InvT b (startT g) := by
  have hI := startI_inv hG
  have hregR : ∀ v ∈ firstR g.roots, InR g.objs.length v := by
    intro v hv hr
    have h1 := (hI.fine.regs v hv).1 hr
    have h2 := h1.lt
    have h3 : (startI g).os.length = g.objs.length := by simp [startI]
    have := h1.1
    exact ⟨h1.1, by omega⟩
  have hat : ∀ j, 0 ≤ j → cAt (beginC g.objs.length (firstR g.roots)) j = if j ∈ targets (firstR g.roots) then 1 else 0 := fun j hj => beginC_at hregR hj
  have hno : ∀ (i : Nat), cAt (beginC g.objs.length (firstR g.roots)) (i : Int) ≠ 2 := by
    intro i h2
    rw [hat _ (by omega)] at h2
    split at h2 <;> cases h2
  refine ⟨hI.fine, ?_, hI.room, fun i hi => hI.rch_lives hi, beginC_hues _ _, ⟨fun _ => ⟨fun v hv hr => .inl ?_, fun i l v _ h2 _ _ => absurd h2 (hno i)⟩, fun _ i l v _ h2 _ _ => absurd h2 (hno i)⟩, List.nodup_nil, fun x => ?_⟩
  · show (beginC _ _).length = (g.objs.map some).length
    rw [beginC_len, List.length_map]
  · show cAt (beginC g.objs.length (firstR g.roots)) v.n ≠ 0
    have hv' : v ∈ firstR g.roots := hv
    rw [hat _ (hregR v hv hr).1, if_pos (mem_targets_iff'.2 ⟨v, hv', hr, rfl⟩)]
    decide
  · constructor
    · intro h; cases h
    · rintro ⟨h1, h2, h3⟩
      exact absurd (hI.lives (i := x) h1 h2) h3
theorem runsT_inv {g : G} (hG : Good g) {b : Int} (hb : b = 1 ∨ b = 2 ∨ b = 3) : ∀ (k : Nat) (ds : List Dd), k ≤ ds.length → k ≤ 100 → InvT b (runs (tstep b) (startT g) (ds.take k)).1 ∧ (runs (tstep b) (startT g) (ds.take k)).1.os.length ≤ 24 + k := by
  intro k
  induction k with
  | zero =>
    intro ds _ _
    rw [List.take_zero]
    refine ⟨startT_inv hG b, ?_⟩
    show (g.objs.map some).length ≤ 24 + 0
    have := hG.objs
    simp; omega
  | succ k ih =>
    intro ds hk h100
    obtain ⟨h1, h2⟩ := ih ds (by omega) (by omega)
    obtain ⟨d, hd⟩ : ∃ d, ds[k]? = some d := ⟨ds[k]'(by omega), List.getElem?_eq_getElem (by omega)⟩
    rw [runs_take _ _ hd]
    exact ⟨h1.step hb (by omega) d, Nat.le_trans (h1.step_len d) (by omega)⟩
section
variable {g : G} (hG : Good g) {b : Int} (hb : b = 1 ∨ b = 2 ∨ b = 3) {ds : List Dd} (hn : ds.length ≤ 100)
include hG hb hn
theorem runsT_tells : ∀ k d, ds[k]? = some d → Tells (tstep b) (wB [8, 9]) (runs (tstep b) (startT g) (ds.take k)).1 d := by
  intro k d hd
  have hk := (List.getElem?_eq_some_iff.1 hd).1
  exact (runsT_inv hG hb k ds (by omega) (by omega)).1.tells d
theorem tri_told : ∃ t, runs iKd.step (startI g) ((toldF (wB [8, 9]) ds (runs (tstep b) (startT g) ds).2).map Prod.fst) = (t, (toldF (wB [8, 9]) ds (runs (tstep b) (startT g) ds).2).map Prod.snd) ∧ Kin (bare (runs (tstep b) (startT g) ds).1) t ∧ InvI t := by
  have h := told_sim (tstep b) (wB [8, 9]) (startT g) (startI g) (Kin.refl _) (startI_inv hG) ds (by
    have : (startI g).os.length = g.objs.length := by simp [startI]
    have := hG.objs; omega) (runsT_tells hG hb hn) ds.length (Nat.le_refl _)
  rw [List.take_length] at h
  obtain ⟨t, h1, h2, h3, _⟩ := h
  exact ⟨t, h1, h2, h3⟩
theorem runsT_gone (n : Nat) : ∀ j, n + j ≤ ds.length → (runs (tstep b) (startT g) (ds.take n)).1.x.gone <+: (runs (tstep b) (startT g) (ds.take (n + j))).1.x.gone := by
  intro j
  induction j with
  | zero => intro _; exact List.prefix_refl _
  | succ j ih =>
    intro hj
    obtain ⟨d, hd⟩ : ∃ d, ds[n + j]? = some d := ⟨ds[n + j]'(by omega), List.getElem?_eq_getElem (by omega)⟩
    rw [← Nat.add_assoc, runs_take _ _ hd]
    exact (ih (by omega)).trans ((runsT_inv hG hb (n + j) ds (by omega) (by omega)).1.step_gone d)
theorem goneT_front {n : Nat} (h : n ≤ ds.length) : (runs (tstep b) (startT g) (ds.take n)).1.x.gone <+: (runs (tstep b) (startT g) ds).1.x.gone := by
  have := runsT_gone hG hb hn n (ds.length - n) (by omega)
  rwa [show n + (ds.length - n) = ds.length by omega, List.take_length] at this
end
end Go.Proofs.Ytmmcjjklmcfegaa

/- A memory with so many words: rows by place, room, who clears it up. Plain. -/
namespace Go.Proofs.Ytmmcjjklmcfegaa

structure Rx where
  at_ : List Int
  times : Int
/-- How many words an object takes. -/
def szO (os : Os) (i : Int) : Int := 1 + ((objAt os i).length : Int)
def rowL (os : Os) (a : List Int) : List Int := (thereL os os.length).mergeSort (fun x y => decide (cAt a x ≤ cAt a y))
def roomF (sw : Bool) (words n : Int) (os : Os) (a : List Int) : List Int → Int → Int
  | [], next => if n ≤ words - next then next else -1
  | i :: l, next => if sw = true ∧ n ≤ cAt a i - next then next else roomF sw words n os a l (cAt a i + szO os i)
def downF (os : Os) : List Int → Int → List Int → List Int
  | [], _, a => a
  | i :: l, next, a => downF os l (next + szO os i) (a.set i.toNat next)
noncomputable def foundL (regs : List V) (os : Os) : List Int := open Classical in if h : ∃ l, ∃ dist, FoundS (gOf regs os) l dist then Classical.choose h else []
def killed (os : Os) (L : List Int) : Os := killL os ((thereL os os.length).filter fun i => !decide (i ∈ L))
noncomputable def clearS (col : Int) (s : Sm Rx) : Sm Rx :=
  ⟨s.regs, killed s.os (foundL s.regs s.os),
    ⟨if col = 2 then downF (killed s.os (foundL s.regs s.os)) (foundL s.regs s.os) 0 s.x.at_
      else if col = 3 then downF (killed s.os (foundL s.regs s.os)) (rowL (killed s.os (foundL s.regs s.os)) s.x.at_) 0 s.x.at_ else s.x.at_, s.x.times + 1⟩⟩
def roomS (col words : Int) (s : Sm Rx) (n : Int) : Int := roomF (decide (col = 1)) words n s.os s.x.at_ (rowL s.os s.x.at_) 0
def pushS (s : Sm Rx) (n : Nat) (a : Int) : Sm Rx := ⟨s.regs, s.os ++ [some (zerosV n)], ⟨s.x.at_ ++ [a], s.x.times⟩⟩
noncomputable def rKd (col words : Int) : Kd Rx where
  new := fun s n => if 0 ≤ roomS col words s (1 + n) then (pushS s n (roomS col words s (1 + n)), some (s.os.length : Int))
    else if 0 ≤ roomS col words (clearS col s) (1 + n) then (pushS (clearS col s) n (roomS col words (clearS col s) (1 + n)), some (s.os.length : Int))
    else (clearS col s, none)
  put := fun s i k u => ⟨s.regs, s.os.set i.toNat (some ((objAt s.os i).set k u)), s.x⟩
  hold := fun s _ _ => s
noncomputable def rstep (col words : Int) (s : Sm Rx) (d : Dd) : Sm Rx × Ot := if d.kind = 8 then (clearS col s, ⟨0, false, 0⟩) else (rKd col words).step s d

/-- What is found is there to be found. -/
theorem visitTo_mono (k : Nat) : ∀ (pre : List Int) (s : S), s.1.length ≤ (visitTo s k pre).1.length := by
  intro pre
  induction pre with
  | nil => intro s; exact Nat.le_refl _
  | cons x pre ih =>
    intro s
    show _ ≤ (visitTo (take1 (distAt s k + 1) s x) k pre).1.length
    exact Nat.le_trans (take1_len _ _ _) (ih _)
theorem found_ex {g : G} (hg : Rng g) : ∃ l dist, FoundS g l dist := by
  have hex : ∃ k, k ≤ g.objs.length ∧ ¬ (k < (foundAt g k).1.length) ∧ ∀ j, j < k → j < (foundAt g j).1.length := by
    have key : ∀ m, (∃ k, k ≤ m ∧ ¬ (k < (foundAt g k).1.length) ∧ ∀ j, j < k → j < (foundAt g j).1.length) ∨ ∀ j, j ≤ m → j < (foundAt g j).1.length := by
      intro m
      induction m with
      | zero =>
        by_cases h : 0 < (foundAt g 0).1.length
        · right; intro j hj; obtain rfl : j = 0 := by omega
          exact h
        · left; exact ⟨0, Nat.le_refl _, h, fun j hj => by omega⟩
      | succ m ih =>
        rcases ih with ⟨k, h1, h2, h3⟩ | ih
        · exact .inl ⟨k, by omega, h2, h3⟩
        · by_cases h : m + 1 < (foundAt g (m + 1)).1.length
          · right; intro j hj
            rcases Nat.lt_or_ge j (m + 1) with h1 | h1
            · exact ih j (by omega)
            · obtain rfl : j = m + 1 := by omega
              exact h
          · exact .inl ⟨m + 1, Nat.le_refl _, h, fun j hj => ih j (by omega)⟩
    rcases key g.objs.length with h | h
    · exact h
    · have h1 := (foundAt_invR hg g.objs.length (fun j hj => h j (by omega))).length_le
      have h2 := h _ (Nat.le_refl _)
      omega
  obtain ⟨k, _, h2, h3⟩ := hex
  refine ⟨(foundAt g k).1, (foundAt g k).2, k, rfl, ?_, h3⟩
  refine Nat.le_antisymm ?_ (by omega)
  cases k with
  | zero => exact Nat.zero_le _
  | succ k =>
    have h4 := h3 k (by omega)
    have h5 : (foundAt g k).1.length ≤ (foundAt g (k + 1)).1.length := visitTo_mono _ _ _
    omega
theorem foundL_is {regs : List V} {os : Os} {l dist : List Int} (h : FoundS (gOf regs os) l dist) : foundL regs os = l := by
  have hex : ∃ l, ∃ dist, FoundS (gOf regs os) l dist := ⟨l, dist, h⟩
  unfold foundL
  rw [dif_pos hex]
  obtain ⟨d', hd⟩ := Classical.choose_spec hex
  exact (hd.unique h).1
theorem foundL_far {regs : List V} {os : Os} (hF : Fine regs os) (hn : os.length ≤ 1000) : ∃ dist, FoundS (gOf regs os) (foundL regs os) dist ∧ Far (gOf regs os) (foundL regs os) dist := by
  have hr := (hF.fits hn).rng
  obtain ⟨l, dist, h⟩ := found_ex hr
  rw [foundL_is h]
  exact ⟨dist, h, h.farR hr⟩
/-- What is found is what registers lead to. -/
theorem foundL_leads {regs : List V} {os : Os} (hF : Fine regs os) (hn : os.length ≤ 1000) (hl : ∀ i, RchM regs os i → Lives os i) (x : Int) : x ∈ foundL regs os ↔ RchM regs os x := by
  obtain ⟨dist, _, h⟩ := foundL_far hF hn
  constructor
  · have key : ∀ (n : Nat) (y : Int), y ∈ foundL regs os → D (foundL regs os, dist) y = n → RchM regs os y := by
      intro n
      induction n with
      | zero =>
        intro y hy hd
        rcases h.par y hy with ⟨h1, _⟩ | ⟨p, hp, _, h2⟩
        · obtain ⟨v, hv, hr, rfl⟩ := mem_targets_iff'.1 h1
          exact .root hv hr
        · have := (h.inv.found (h.inv.rng p hp)).2 hp
          omega
      | succ n ih =>
        intro y hy hd
        rcases h.par y hy with ⟨h1, _⟩ | ⟨p, hp, h1, h2⟩
        · obtain ⟨v, hv, hr, rfl⟩ := mem_targets_iff'.1 h1
          exact .root hv hr
        · have h3 := ih p hp (by omega)
          obtain ⟨v, hv, hr, rfl⟩ := mem_targets_iff'.1 h1
          rw [fieldsAt_gOf] at hv
          exact .step h3 (hl p h3).obj hv hr
    intro hx
    have h0 := (h.inv.found (h.inv.rng x hx)).2 hx
    exact key (D (foundL regs os, dist) x).toNat x hx (by omega)
  · intro hx
    refine hx.least (P := (· ∈ foundL regs os)) (fun v hv hr => (h.root _ (mem_targets_iff'.2 ⟨v, hv, hr, rfl⟩)).1) (fun i o hi ho v hv hr => (h.closed i hi _ (mem_targets_iff'.2 ⟨v, ?_, hr, rfl⟩)).1)
    rw [fieldsAt_gOf]
    have : objAt os i = o := by unfold objAt; rw [ho]; rfl
    rw [this]; exact hv
theorem foundL_nodup {regs : List V} {os : Os} (hF : Fine regs os) (hn : os.length ≤ 1000) : (foundL regs os).Nodup := by
  obtain ⟨dist, _, h⟩ := foundL_far hF hn
  exact h.inv.nodup

/-- Places: objects lie apart, within the words. -/
structure PlI (words : Int) (os : Os) (a : List Int) : Prop where
  len : a.length = os.length
  lo : ∀ i, Lives os i → 0 ≤ cAt a i
  hi : ∀ i, Lives os i → cAt a i + szO os i ≤ words
  ap : ∀ i j, Lives os i → Lives os j → i ≠ j → cAt a i + szO os i ≤ cAt a j ∨ cAt a j + szO os j ≤ cAt a i
theorem szO_pos (os : Os) (i : Int) : 1 ≤ szO os i := by unfold szO; omega
theorem mem_rowL {os : Os} {a : List Int} {x : Int} : x ∈ rowL os a ↔ Lives os x := by
  unfold rowL
  rw [List.mem_mergeSort, mem_thereL (Nat.le_refl _)]
  constructor
  · rintro ⟨h, _⟩; exact h
  · intro h; exact ⟨h, by have := h.lt; have := h.1; omega⟩
theorem rowL_perm (os : Os) (a : List Int) : (rowL os a).Perm (thereL os os.length) := List.mergeSort_perm _ _
theorem rowL_nodup (os : Os) (a : List Int) : (rowL os a).Nodup := (rowL_perm os a).nodup_iff.2 (rising_nodup (thereL_rising _ _))
/-- A row that stands apart, in order. -/
def Rise (os : Os) (a : List Int) (l : List Int) : Prop := l.Pairwise fun x y => cAt a x + szO os x ≤ cAt a y
theorem rowL_le (os : Os) (a : List Int) : (rowL os a).Pairwise fun x y => cAt a x ≤ cAt a y := by
  have h := List.pairwise_mergeSort (le := fun x y : Int => decide (cAt a x ≤ cAt a y)) (fun x y z h1 h2 => by simp at *; omega) (fun x y => by simp; omega) (thereL os os.length)
  exact h.imp fun h => by simpa using h
theorem PlI.rise {words : Int} {os : Os} {a : List Int} (h : PlI words os a) : Rise os a (rowL os a) := by
  have h1 := rowL_le os a
  have h2 := rowL_nodup os a
  have h3 := h1.and h2
  refine List.Pairwise.imp_of_mem ?_ h3
  intro x y hx hy hxy
  have hx' := mem_rowL.1 hx
  have hy' := mem_rowL.1 hy
  rcases h.ap x y hx' hy' hxy.2 with h4 | h4
  · exact h4
  · have := szO_pos os y
    have := hxy.1
    omega
/-- A sorted row of what is there is the row by place. -/
theorem rowL_unique {words : Int} {os : Os} {a : List Int} (h : PlI words os a) {l : List Int} (hp : l.Perm (thereL os os.length)) (hs : l.Pairwise fun x y => cAt a x ≤ cAt a y) : l = rowL os a := by
  have hp2 : l.Perm (rowL os a) := hp.trans (rowL_perm os a).symm
  have hnd : l.Nodup := hp2.nodup_iff.2 (rowL_nodup os a)
  have hr := h.rise
  have lt1 : l.Pairwise fun x y => cAt a x < cAt a y := by
    refine List.Pairwise.imp_of_mem ?_ (hs.and hnd)
    intro x y hx hy hxy
    have hx' := mem_rowL.1 (hp2.mem_iff.1 hx)
    have hy' := mem_rowL.1 (hp2.mem_iff.1 hy)
    have := szO_pos os x
    have := szO_pos os y
    have := hxy.1
    rcases h.ap x y hx' hy' hxy.2 with h4 | h4 <;> omega
  have lt2 : (rowL os a).Pairwise fun x y => cAt a x < cAt a y := hr.imp fun {x y} h => by have := szO_pos os x; omega
  exact List.Perm.eq_of_pairwise (le := fun x y => cAt a x < cAt a y) (fun x y _ _ h1 h2 => by omega) lt1 lt2 hp2
theorem roomF_says (sw : Bool) (words n : Int) (os : Os) (a : List Int) : ∀ (l : List Int) (next : Int), Rise os a l → (∀ y ∈ l, next ≤ cAt a y) → 0 ≤ next → roomF sw words n os a l next = -1 ∨
    (next ≤ roomF sw words n os a l next ∧ (∀ y ∈ l, cAt a y + szO os y ≤ roomF sw words n os a l next ∨ roomF sw words n os a l next + n ≤ cAt a y) ∧ ((∀ y ∈ l, cAt a y + szO os y ≤ words) → roomF sw words n os a l next + n ≤ words)) := by
  intro l
  induction l with
  | nil =>
    intro next _ _ h0
    unfold roomF
    split
    · right; exact ⟨Int.le_refl _, fun y hy => (by cases hy), fun _ => by omega⟩
    · left; rfl
  | cons i l ih =>
    intro next hr hy h0
    have hr' := List.pairwise_cons.1 hr
    have hi := hy i (List.mem_cons_self ..)
    have hs := szO_pos os i
    unfold roomF
    split
    · rename_i hc
      right
      refine ⟨Int.le_refl _, fun y hy' => ?_, fun hw => ?_⟩
      · right
        rcases List.mem_cons.1 hy' with rfl | hy'
        · omega
        · have := hr'.1 y hy'; omega
      · have := hw i (List.mem_cons_self ..); omega
    · rcases ih (cAt a i + szO os i) hr'.2 (fun y hy' => hr'.1 y hy') (by omega) with h1 | ⟨h1, h2, h3⟩
      · exact .inl h1
      · right
        refine ⟨by omega, fun y hy' => ?_, fun hw => h3 fun y hy' => hw y (List.mem_cons_of_mem _ hy')⟩
        rcases List.mem_cons.1 hy' with rfl | hy'
        · left; omega
        · exact h2 y hy'
theorem cAt_push (a : List Int) (x : Int) (i : Int) (h0 : 0 ≤ i) : cAt (a ++ [x]) i = if i = a.length then x else cAt a i := by
  unfold cAt
  rw [List.getD_eq_getElem?_getD, List.getD_eq_getElem?_getD]
  by_cases h : i.toNat < a.length
  · rw [List.getElem?_append_left h, if_neg (by omega)]
  · rw [List.getElem?_append_right (by omega)]
    by_cases e : i = a.length
    · rw [if_pos e, e]; simp
    · rw [if_neg e, List.getElem?_eq_none (l := a) (by omega), List.getElem?_eq_none (by simp; omega)]
theorem lives_push {os : Os} {n : Nat} {i : Int} (h : Lives (os ++ [some (zerosV n)]) i) : Lives os i ∨ i = os.length := by
  obtain ⟨h0, l, hl⟩ := h
  rcases Nat.lt_or_ge i.toNat os.length with h1 | h1
  · rw [List.getElem?_append_left h1] at hl
    exact .inl ⟨h0, l, hl⟩
  · right
    have := (List.getElem?_eq_some_iff.1 hl).1
    simp at this; omega
theorem objAt_push' {os : Os} {n : Nat} {i : Int} (h : Lives os i) : objAt (os ++ [some (zerosV n)]) i = objAt os i := objAt_push _ _ h.1 (by have := h.lt; have := h.1; omega)
theorem PlI.push {words : Int} {os : Os} {a : List Int} (h : PlI words os a) (sw : Bool) (n : Nat) (hr : 0 ≤ roomF sw words (1 + n) os a (rowL os a) 0) :
    PlI words (os ++ [some (zerosV n)]) (a ++ [roomF sw words (1 + n) os a (rowL os a) 0]) := by
  rcases roomF_says sw words (1 + n) os a (rowL os a) 0 h.rise (fun y hy => h.lo y (mem_rowL.1 hy)) (Int.le_refl _) with h1 | ⟨_, h2, h3⟩
  · omega
  · have h3 := h3 fun y hy => h.hi y (mem_rowL.1 hy)
    obtain ⟨r, hr'⟩ : ∃ r, roomF sw words (1 + n) os a (rowL os a) 0 = r := ⟨_, rfl⟩
    rw [hr'] at h2 h3 hr ⊢
    have h2' : ∀ y, Lives os y → cAt a y + szO os y ≤ r ∨ r + (1 + n) ≤ cAt a y := fun y hy => h2 y (mem_rowL.2 hy)
    have hne : ∀ i, Lives os i → ¬ i = (a.length : Int) := fun i hi => by have := hi.lt; have := hi.1; rw [h.len]; omega
    have ca : ∀ i, Lives os i → cAt (a ++ [r]) i = cAt a i := fun i hi => by rw [cAt_push _ _ _ hi.1, if_neg (hne i hi)]
    have cn : cAt (a ++ [r]) (os.length : Int) = r := by rw [cAt_push _ _ _ (by omega), if_pos (by rw [h.len])]
    have sa : ∀ i, Lives os i → szO (os ++ [some (zerosV n)]) i = szO os i := fun i hi => by unfold szO; rw [objAt_push' hi]
    have sn : szO (os ++ [some (zerosV n)]) (os.length : Int) = 1 + n := by unfold szO; rw [objAt_new]; unfold zerosV; simp
    refine ⟨by simp [h.len], ?_, ?_, ?_⟩
    · intro i hi
      rcases lives_push hi with hi | rfl
      · rw [ca i hi]; exact h.lo i hi
      · rw [cn]; exact hr
    · intro i hi
      rcases lives_push hi with hi | rfl
      · rw [ca i hi, sa i hi]; exact h.hi i hi
      · rw [cn, sn]; exact h3
    · intro i j hi hj hij
      rcases lives_push hi with hi | rfl
      · rcases lives_push hj with hj | rfl
        · rw [ca i hi, sa i hi, ca j hj, sa j hj]; exact h.ap i j hi hj hij
        · rw [ca i hi, sa i hi, cn, sn]; exact h2' i hi
      · rcases lives_push hj with hj | rfl
        · rw [ca j hj, sa j hj, cn, sn]; exact (h2' j hj).symm
        · exact absurd rfl hij
theorem PlI.put {words : Int} {os : Os} {a : List Int} (h : PlI words os a) {j : Int} (hj : Lives os j) (k : Nat) (u : V) : PlI words (os.set j.toNat (some ((objAt os j).set k u))) a := by
  have hl : ∀ i, Lives (os.set j.toNat (some ((objAt os j).set k u))) i → Lives os i := by
    rintro i ⟨h0, l, hl⟩
    by_cases e : j.toNat = i.toNat
    · have : i = j := by have := hj.1; omega
      rw [this]; exact hj
    · rw [List.getElem?_set_ne e] at hl; exact ⟨h0, l, hl⟩
  have hs : ∀ i, 0 ≤ i → szO (os.set j.toNat (some ((objAt os j).set k u))) i = szO os i := by
    intro i hi
    have := hj.lt
    have := hj.1
    unfold szO
    rw [objAt_set _ hi hj.1 (by omega)]
    split
    · rename_i e; subst e; rw [List.length_set]
    · rfl
  refine ⟨by rw [List.length_set]; exact h.len, fun i hi => h.lo i (hl i hi), fun i hi => ?_, fun i j' hi hj' hij => ?_⟩
  · rw [hs i hi.1]; exact h.hi i (hl i hi)
  · rw [hs i hi.1, hs j' hj'.1]; exact h.ap i j' (hl i hi) (hl j' hj') hij
/-- Objects stand one behind the other. -/
def Pk (os : Os) (a : List Int) : List Int → Int → Prop
  | [], _ => True
  | i :: l, next => cAt a i = next ∧ Pk os a l (next + szO os i)
def totL (os : Os) (l : List Int) : Int := (l.map (szO os)).sum
theorem totL_cons (os : Os) (i : Int) (l : List Int) : totL os (i :: l) = szO os i + totL os l := by simp [totL]
theorem totL_perm {os : Os} {l m : List Int} (h : l.Perm m) : totL os l = totL os m := by
  induction h with
  | nil => rfl
  | cons x _ ih => rw [totL_cons, totL_cons, ih]
  | swap x y l => rw [totL_cons, totL_cons, totL_cons, totL_cons]; omega
  | trans _ _ h1 h2 => rw [h1, h2]
theorem totL_pos (os : Os) (l : List Int) : 0 ≤ totL os l := by
  induction l with
  | nil => exact Int.le_refl _
  | cons x l ih => rw [totL_cons]; have := szO_pos os x; omega
theorem Pk.says {os : Os} {a : List Int} : ∀ {l : List Int} {next : Int}, Pk os a l next → Rise os a l ∧ ∀ x ∈ l, next ≤ cAt a x ∧ cAt a x + szO os x ≤ next + totL os l := by
  intro l
  induction l with
  | nil => intro next _; exact ⟨List.Pairwise.nil, fun x hx => by cases hx⟩
  | cons i l ih =>
    intro next h
    obtain ⟨h1, h2⟩ := h
    obtain ⟨h3, h4⟩ := ih h2
    have hs := szO_pos os i
    have h0 := totL_pos os l
    refine ⟨List.pairwise_cons.2 ⟨fun y hy => ?_, h3⟩, fun x hx => ?_⟩
    · rw [h1]; exact (h4 y hy).1
    · rw [totL_cons]
      rcases List.mem_cons.1 hx with rfl | hx
      · omega
      · have := h4 x hx; omega
theorem downF_len (os : Os) : ∀ (l : List Int) (next : Int) (a : List Int), (downF os l next a).length = a.length := by
  intro l
  induction l with
  | nil => intro next a; rfl
  | cons i l ih => intro next a; unfold downF; rw [ih, List.length_set]
theorem downF_other (os : Os) : ∀ (l : List Int) (next : Int) (a : List Int), (∀ y ∈ l, 0 ≤ y ∧ y < (a.length : Int)) → ∀ x, 0 ≤ x → x ∉ l → cAt (downF os l next a) x = cAt a x := by
  intro l
  induction l with
  | nil => intro next a _ x _ _; rfl
  | cons i l ih =>
    intro next a hl x h0 hx
    have hi := hl i (List.mem_cons_self ..)
    unfold downF
    rw [ih _ _ (fun y hy => by rw [List.length_set]; exact hl y (List.mem_cons_of_mem _ hy)) x h0 (fun h => hx (List.mem_cons_of_mem _ h)), cAt_set _ hi.1 hi.2 h0, if_neg (fun e => hx (by rw [e]; exact List.mem_cons_self ..))]
theorem pk_congr {os : Os} {a b : List Int} : ∀ {l : List Int} {next : Int}, (∀ x ∈ l, cAt b x = cAt a x) → Pk os a l next → Pk os b l next := by
  intro l
  induction l with
  | nil => intro next _ _; trivial
  | cons i l ih =>
    intro next h h2
    exact ⟨by rw [h i (List.mem_cons_self ..)]; exact h2.1, ih (fun x hx => h x (List.mem_cons_of_mem _ hx)) h2.2⟩
theorem downF_pk (os : Os) : ∀ (l : List Int) (next : Int) (a : List Int), l.Nodup → (∀ y ∈ l, 0 ≤ y ∧ y < (a.length : Int)) → Pk os (downF os l next a) l next := by
  intro l
  induction l with
  | nil => intro next a _ _; trivial
  | cons i l ih =>
    intro next a hn hl
    have hn' := List.nodup_cons.1 hn
    have hi := hl i (List.mem_cons_self ..)
    have hl' : ∀ y ∈ l, 0 ≤ y ∧ y < ((a.set i.toNat next).length : Int) := fun y hy => by rw [List.length_set]; exact hl y (List.mem_cons_of_mem _ hy)
    refine ⟨?_, ih _ _ hn'.2 hl'⟩
    show cAt (downF os l _ _) i = next
    rw [downF_other os l _ _ hl' i hi.1 hn'.1, cAt_set _ hi.1 hi.2 hi.1, if_pos rfl]
theorem rise_tot {words : Int} {os : Os} {a : List Int} : ∀ {l : List Int} {next : Int}, Rise os a l → (∀ y ∈ l, next ≤ cAt a y) → (∀ y ∈ l, cAt a y + szO os y ≤ words) → next ≤ words → next + totL os l ≤ words := by
  intro l
  induction l with
  | nil => intro next _ _ _ h; simpa [totL] using h
  | cons i l ih =>
    intro next hr h1 h2 h3
    have hr' := List.pairwise_cons.1 hr
    have := h1 i (List.mem_cons_self ..)
    have := ih hr'.2 (next := cAt a i + szO os i) (fun y hy => hr'.1 y hy) (fun y hy => h2 y (List.mem_cons_of_mem _ hy)) (h2 i (List.mem_cons_self ..))
    rw [totL_cons]; omega
theorem PlI.tot {words : Int} {os : Os} {a : List Int} (h : PlI words os a) (hw : 0 ≤ words) : totL os (thereL os os.length) ≤ words := by
  have := rise_tot (words := words) (next := 0) h.rise (fun y hy => h.lo y (mem_rowL.1 hy)) (fun y hy => h.hi y (mem_rowL.1 hy)) hw
  rw [totL_perm (rowL_perm os a)] at this
  omega
/-- Down: all stand one behind the other. -/
theorem PlI.down {words : Int} {os : Os} {a : List Int} (h : PlI words os a) (hw : 0 ≤ words) {l : List Int} (hl : l.Perm (thereL os os.length)) : PlI words os (downF os l 0 a) ∧ Pk os (downF os l 0 a) l 0 := by
  have hnd : l.Nodup := hl.nodup_iff.2 (rising_nodup (thereL_rising _ _))
  have hmem : ∀ y, y ∈ l ↔ Lives os y := fun y => by
    rw [hl.mem_iff, mem_thereL (Nat.le_refl _)]
    exact ⟨fun h => h.1, fun h => ⟨h, by have := h.lt; have := h.1; omega⟩⟩
  have hrng : ∀ y ∈ l, 0 ≤ y ∧ y < (a.length : Int) := fun y hy => by
    have := ((hmem y).1 hy).lt; have := ((hmem y).1 hy).1; rw [h.len]; omega
  have hp := downF_pk os l 0 a hnd hrng
  obtain ⟨h1, h2⟩ := hp.says
  have ht := h.tot hw
  rw [← totL_perm hl] at ht
  refine ⟨⟨by rw [downF_len]; exact h.len, fun i hi => (h2 i ((hmem i).2 hi)).1, fun i hi => by have := (h2 i ((hmem i).2 hi)).2; omega, fun i j hi hj hij => ?_⟩, hp⟩
  have hi' := (hmem i).2 hi
  have hj' := (hmem j).2 hj
  obtain ⟨p, hp1⟩ := List.getElem?_of_mem hi'
  obtain ⟨q, hq1⟩ := List.getElem?_of_mem hj'
  have hpl := (List.getElem?_eq_some_iff.1 hp1).1
  have hql := (List.getElem?_eq_some_iff.1 hq1).1
  have h3 := List.pairwise_iff_getElem.1 h1
  have ep := (List.getElem?_eq_some_iff.1 hp1).2
  have eq := (List.getElem?_eq_some_iff.1 hq1).2
  rcases Nat.lt_trichotomy p q with h4 | h4 | h4
  · left; have := h3 p q hpl hql h4; rw [ep, eq] at this; exact this
  · subst h4; rw [hp1] at hq1; exact absurd (Option.some.inj hq1) hij
  · right; have := h3 q p hql hpl h4; rw [ep, eq] at this; exact this
/-- Behind a clearing. -/
theorem killed_len (os : Os) (L : List Int) : (killed os L).length = os.length := kill_len _ _
theorem killed_get (os : Os) (L : List Int) (i : Nat) : (killed os L)[i]? = if (i : Int) ∈ L then os[i]? else if i < os.length then some none else none := by
  unfold killed
  rw [kill_get _ _ (fun x hx => by
    obtain ⟨h1, _⟩ := List.mem_filter.1 hx
    exact ((mem_thereL (Nat.le_refl _)).1 h1).1.1)]
  by_cases hL : (i : Int) ∈ L
  · rw [if_pos hL, if_neg]
    rintro ⟨h1, _⟩
    have := (List.mem_filter.1 h1).2
    simp [hL] at this
  · rw [if_neg hL]
    by_cases hi : i < os.length
    · rw [if_pos hi]
      by_cases hm : (i : Int) ∈ thereL os os.length
      · rw [if_pos ⟨List.mem_filter.2 ⟨hm, by simp [hL]⟩, hi⟩]
      · rw [if_neg (fun h => hm (List.mem_filter.1 h.1).1)]
        have : ¬ Lives os (i : Int) := fun h => hm ((mem_thereL (Nat.le_refl _)).2 ⟨h, by omega⟩)
        cases hc : os[i]? with
        | none => rw [List.getElem?_eq_none_iff] at hc; omega
        | some c =>
          cases c with
          | none => rfl
          | some l => exact absurd (lives_nat hc) this
    · rw [if_neg hi, if_neg (fun h => hi h.2), List.getElem?_eq_none (by omega)]
theorem killed_lives {os : Os} {L : List Int} {i : Int} : Lives (killed os L) i ↔ Lives os i ∧ i ∈ L := by
  constructor
  · rintro ⟨h0, l, hl⟩
    rw [killed_get, Int.toNat_of_nonneg h0] at hl
    split at hl
    · rename_i h; exact ⟨⟨h0, l, hl⟩, h⟩
    · split at hl <;> cases hl
  · rintro ⟨⟨h0, l, hl⟩, h⟩
    exact ⟨h0, l, by rw [killed_get, Int.toNat_of_nonneg h0, if_pos h]; exact hl⟩
theorem killed_some {os : Os} {L : List Int} {i : Nat} {l : List V} (h : (killed os L)[i]? = some (some l)) : os[i]? = some (some l) ∧ (i : Int) ∈ L := by
  rw [killed_get] at h
  split at h
  · rename_i hm; exact ⟨h, hm⟩
  · split at h <;> cases h
theorem killed_obj {os : Os} {L : List Int} {i : Int} (h0 : 0 ≤ i) (h : i ∈ L) : objAt (killed os L) i = objAt os i := by
  unfold objAt; rw [killed_get, Int.toNat_of_nonneg h0, if_pos h]
theorem PlI.kill {words : Int} {os : Os} {a : List Int} (h : PlI words os a) (L : List Int) : PlI words (killed os L) a := by
  have hs : ∀ i, Lives (killed os L) i → szO (killed os L) i = szO os i := fun i hi => by
    unfold szO; rw [killed_obj hi.1 (killed_lives.1 hi).2]
  refine ⟨by rw [killed_len]; exact h.len, fun i hi => h.lo i (killed_lives.1 hi).1, fun i hi => by rw [hs i hi]; exact h.hi i (killed_lives.1 hi).1, fun i j hi hj hij => by
    rw [hs i hi, hs j hj]; exact h.ap i j (killed_lives.1 hi).1 (killed_lives.1 hj).1 hij⟩
/-- What is always so. -/
structure InvX (words : Int) (s : Sm Rx) : Prop where
  fine : Fine s.regs s.os
  len : s.os.length ≤ 900
  led : ∀ i, RchM s.regs s.os i → Lives s.os i
  pl : PlI words s.os s.x.at_
  tm : 0 ≤ s.x.times ∧ s.x.times ≤ 100
theorem InvX.fld {words : Int} {s : Sm Rx} (h : InvX words s) {v u : V} (hv : v ∈ s.regs) (hr : v.ref = true) (hu : u ∈ objAt s.os v.n) : OkV s.os u := by
  have hl := (h.fine.regs v hv).1 hr
  exact ⟨fun hu2 => h.led _ (.step (.root hv hr) hl.obj hu hu2), h.fine.num _ _ hl.obj u hu⟩
theorem kill_rch {regs : List V} {os : Os} {L : List Int} (hl : ∀ i, RchM regs os i → i ∈ L ∧ 0 ≤ i) {i : Int} : RchM regs (killed os L) i ↔ RchM regs os i := by
  constructor
  · intro h
    refine h.least (fun v hv hr => .root hv hr) (fun j l hj hl' v hv hr => ?_)
    have := killed_some hl'
    exact .step hj this.1 hv hr
  · intro h
    have : RchM regs (killed os L) i ∧ RchM regs os i := by
      refine h.least (P := fun i => RchM regs (killed os L) i ∧ RchM regs os i) (fun v hv hr => ⟨.root hv hr, .root hv hr⟩) (fun j l hj hl' v hv hr => ⟨.step hj.1 ?_ hv hr, .step hj.2 hl' hv hr⟩)
      have h2 := hl j hj.2
      rw [killed_get, Int.toNat_of_nonneg h2.2, if_pos h2.1]; exact hl'
    exact this.1
theorem kill_kin {regs : List V} {os : Os} {L : List Int} (hl : ∀ i, RchM regs os i → i ∈ L ∧ 0 ≤ i) : Kin (⟨regs, killed os L, ()⟩ : Sm Unit) ⟨regs, os, ()⟩ :=
  ⟨rfl, killed_len _ _, fun i hi => by
    have h2 := hl i hi
    show (killed os L)[i.toNat]? = os[i.toNat]?
    rw [killed_get, Int.toNat_of_nonneg h2.2, if_pos h2.1]⟩
section
variable {words : Int} {s : Sm Rx}
theorem InvX.leads (h : InvX words s) (x : Int) : x ∈ foundL s.regs s.os ↔ RchM s.regs s.os x := foundL_leads h.fine (by have := h.len; omega) h.led x
theorem InvX.inL (h : InvX words s) (i : Int) (hi : RchM s.regs s.os i) : i ∈ foundL s.regs s.os ∧ 0 ≤ i := ⟨(h.leads i).2 hi, (h.led i hi).1⟩
theorem InvX.foundPerm (h : InvX words s) : (foundL s.regs s.os).Perm (thereL (killed s.os (foundL s.regs s.os)) (killed s.os (foundL s.regs s.os)).length) := by
  refine (List.perm_ext_iff_of_nodup (foundL_nodup h.fine (by have := h.len; omega)) (rising_nodup (thereL_rising _ _))).2 fun x => ?_
  rw [mem_thereL (Nat.le_refl _), killed_lives]
  constructor
  · intro hx
    have := h.led x ((h.leads x).1 hx)
    refine ⟨⟨this, hx⟩, ?_⟩
    have h1 := this.lt; have h2 := this.1
    rw [killed_len]; omega
  · rintro ⟨⟨_, h1⟩, _⟩; exact h1
theorem InvX.clearKin (h : InvX words s) (col : Int) : Kin (bare (clearS col s)) (bare s) := kill_kin h.inL
theorem InvX.clear_pl (h : InvX words s) (hw : 0 ≤ words) (col : Int) : PlI words (clearS col s).os (clearS col s).x.at_ := by
  have hk := h.pl.kill (foundL s.regs s.os)
  unfold clearS
  simp only
  split
  · exact (hk.down hw h.foundPerm).1
  · split
    · exact (hk.down hw (rowL_perm _ _)).1
    · exact hk
theorem InvX.clear (h : InvX words s) (hw : 0 ≤ words) (ht : s.x.times < 100) (col : Int) : InvX words (clearS col s) := by
  have hK := h.clearKin col
  have hlen : (clearS col s).os.length = s.os.length := killed_len _ _
  have hreg : (clearS col s).regs = s.regs := rfl
  have hsome : ∀ (i : Nat) (l : List V), (clearS col s).os[i]? = some (some l) → s.os[i]? = some (some l) := fun i l hi => (killed_some hi).1
  have hled : ∀ i, RchM (clearS col s).regs (clearS col s).os i → Lives (clearS col s).os i := by
    intro i hi
    have h1 := (hK.rch (i := i)).1 hi
    exact (hK.lives h1).2 (h.led i h1)
  refine ⟨⟨h.fine.regs8, ?_, fun i l hi => h.fine.flen i l (hsome i l hi), fun i l hi => h.fine.num i l (hsome i l hi), fun i l hi => by rw [hlen]; exact h.fine.rng i l (hsome i l hi)⟩, by rw [hlen]; exact h.len, hled, h.clear_pl hw col, by show 0 ≤ s.x.times + 1; have := h.tm; omega, by show s.x.times + 1 ≤ 100; omega⟩
  intro v hv
  exact ⟨fun hr => hled _ (.root hv hr), (h.fine.regs v hv).2⟩
theorem InvX.push (h : InvX words s) (hl : s.os.length < 900) {n : Nat} (hn : n ≤ 4) (sw : Bool) (hr : 0 ≤ roomF sw words (1 + n) s.os s.x.at_ (rowL s.os s.x.at_) 0) (r : Int) :
    InvX words ⟨s.regs.set r.toNat ⟨true, (s.os.length : Int)⟩, s.os ++ [some (zerosV n)], ⟨s.x.at_ ++ [roomF sw words (1 + n) s.os s.x.at_ (rowL s.os s.x.at_) 0], s.x.times⟩⟩ := by
  refine ⟨(h.fine.push hn).setReg r.toNat ⟨fun _ => lives_new _ _, fun h => by cases h⟩, by show (s.os ++ [_]).length ≤ 900; simp; omega, fun i hi => ?_, h.pl.push sw n hr, h.tm⟩
  rcases rch_new hi with h1 | rfl
  · exact (h.led i h1).push _
  · exact lives_new _ _
theorem InvX.step (h : InvX words s) (hw : 0 ≤ words) (hl : s.os.length < 900) (ht : s.x.times < 100) (col : Int) (d : Dd) : InvX words (rstep col words s d).1 := by
  unfold rstep
  split
  · exact h.clear hw ht col
  · refine step_keepR (rKd col words) (InvX words) s d h h.fine (fun v u => h.fld) (fun r v _ _ hv hr => ?_) (fun i k u hi hir hk hu hur => ?_) ?_ ?_
    · exact ⟨h.fine.setReg r.toNat hv, h.len, fun i hi => h.led i (rch_set hr hi), h.pl, h.tm⟩
    · refine ⟨h.fine.put hi k hu, ?_, fun j hj => (h.led j (rch_put hi hir hur hj)).put _, h.pl.put hi k u, h.tm⟩
      show (s.os.set _ _).length ≤ 900
      rw [List.length_set]; exact h.len
    · intro n hn he
      unfold rKd at he ⊢
      simp only at he ⊢
      split at he
      · cases he
      · rename_i h1
        rw [if_neg h1]
        split at he
        · cases he
        · rename_i h2
          rw [if_neg h2]; exact h.clear hw ht col
    · intro n o r hn _ _ he
      unfold rKd at he ⊢
      simp only at he ⊢
      split at he
      · rename_i h1
        rw [if_pos h1]
        have he := Option.some.inj he
        subst he
        exact h.push hl hn _ h1 r
      · rename_i h1
        rw [if_neg h1]
        split at he
        · rename_i h2
          rw [if_pos h2]
          have he := Option.some.inj he
          subst he
          have hc := h.clear hw ht col
          have hlen : (clearS col s).os.length = s.os.length := killed_len _ _
          have := hc.push (by rw [hlen]; exact hl) hn _ h2 r
          rw [hlen] at this
          exact this
        · cases he
theorem InvX.tells (h : InvX words s) (col : Int) (d : Dd) : Tells (rstep col words) (wB [8]) s d := by
  by_cases h8 : d.kind = 8
  · have e : (rstep col words s d).1 = clearS col s := by unfold rstep; rw [if_pos h8]
    refine ⟨fun _ => by rw [e]; exact h.clearKin col, fun hw => ?_⟩
    rw [h8] at hw; cases hw
  · have e : rstep col words s d = (rKd col words).step s d := by unfold rstep; rw [if_neg h8]
    have hW : wB [8] d.kind = false := by unfold wB; simp [h8]
    have hT := kd_tells (rKd col words) (wB [8]) s d h.fine hW (fun v u => h.fld) (fun r v _ _ _ _ => Kin.refl _) (fun i k u _ _ _ _ _ => Kin.refl _) ?_ ?_
    · refine ⟨fun ho => ?_, fun hw h6 => ?_⟩
      · rw [e] at ho ⊢; exact hT.own ho
      · rw [e] at h6 ⊢; exact hT.pure_ hw h6
    · intro n hn he
      unfold rKd at he ⊢
      simp only at he ⊢
      split at he
      · cases he
      · rename_i h1
        rw [if_neg h1]
        split at he
        · cases he
        · rename_i h2
          rw [if_neg h2]; exact h.clearKin col
    · intro n o r hn _ _ he
      unfold rKd at he ⊢
      simp only at he ⊢
      split at he
      · rename_i h1
        rw [if_pos h1]
        have he := Option.some.inj he
        subst he
        exact Kin.refl _
      · rename_i h1
        rw [if_neg h1]
        split at he
        · rename_i h2
          rw [if_pos h2]
          have he := Option.some.inj he
          subst he
          have hlen : (clearS col s).os.length = s.os.length := killed_len _ _
          have hk := kin_new (h.clearKin col) (fun i hi => h.led i hi) n r
          have e1 : ((bare (clearS col s)).os.length : Int) = (s.os.length : Int) := by show ((clearS col s).os.length : Int) = _; rw [hlen]
          rw [e1] at hk
          exact hk
        · cases he
theorem InvX.step_len (h : InvX words s) (col : Int) (d : Dd) : (rstep col words s d).1.os.length ≤ s.os.length + 1 := by
  have := (h.tells col d).len rfl
  rw [this]; split <;> omega
theorem InvX.step_times (h : InvX words s) (col : Int) (d : Dd) : s.x.times ≤ (rstep col words s d).1.x.times ∧ (rstep col words s d).1.x.times ≤ s.x.times + 1 := by
  unfold rstep
  split
  · exact ⟨by show _ ≤ s.x.times + 1; omega, Int.le_refl _⟩
  · have hid : s.x.times ≤ s.x.times ∧ s.x.times ≤ s.x.times + 1 := ⟨Int.le_refl _, by omega⟩
    refine step_keep (rKd col words) (fun t => s.x.times ≤ t.x.times ∧ t.x.times ≤ s.x.times + 1) s d hid h.fine (fun v u => h.fld) (fun _ _ _ _ _ => hid) (fun _ _ _ _ _ _ => hid) ?_ ?_
    · intro n hn he
      unfold rKd
      simp only
      split
      · exact hid
      · split
        · exact ⟨by show _ ≤ s.x.times + 1; omega, Int.le_refl _⟩
        · exact ⟨by show _ ≤ s.x.times + 1; omega, Int.le_refl _⟩
    · intro n o r hn _ _ he
      unfold rKd Kd.set
      simp only
      split
      · exact hid
      · split
        · exact ⟨by show _ ≤ s.x.times + 1; omega, Int.le_refl _⟩
        · exact ⟨by show _ ≤ s.x.times + 1; omega, Int.le_refl _⟩
end
def startX : Sm Rx := ⟨List.replicate 8 ⟨false, 0⟩, [], ⟨[], 0⟩⟩
theorem startX_inv (words : Int) : InvX words startX := by
  have hno : ∀ i, ¬ Lives startX.os i := fun i h => by have := h.lt; simp [startX] at this
  have hreg : ∀ v ∈ startX.regs, v = ⟨false, 0⟩ := fun v hv => List.eq_of_mem_replicate hv
  refine ⟨⟨rfl, fun v hv => ?_, fun i l hl => (by simp [startX] at hl), fun i l hl => (by simp [startX] at hl), fun i l hl => (by simp [startX] at hl)⟩, by simp [startX], fun i hi => ?_, ⟨rfl, fun i hi => absurd hi (hno i), fun i hi => absurd hi (hno i), fun i j hi => absurd hi (hno i)⟩, Int.le_refl _, by show (0 : Int) ≤ 100; decide⟩
  · rw [hreg v hv]; exact okv_zero _
  · refine hi.least (P := Lives startX.os) (fun v hv hr => ?_) (fun j l hj => absurd hj (hno j))
    rw [hreg v hv] at hr; cases hr
theorem runsX_inv {words : Int} (hw : 0 ≤ words) (col : Int) : ∀ (k : Nat) (ds : List Dd), k ≤ ds.length → k ≤ 100 → InvX words (runs (rstep col words) startX (ds.take k)).1 ∧ (runs (rstep col words) startX (ds.take k)).1.os.length ≤ k ∧ 0 ≤ (runs (rstep col words) startX (ds.take k)).1.x.times ∧ (runs (rstep col words) startX (ds.take k)).1.x.times ≤ k := by
  intro k
  induction k with
  | zero =>
    intro ds _ _
    rw [List.take_zero]
    exact ⟨startX_inv words, Nat.le_refl _, Int.le_refl _, Int.le_refl _⟩
  | succ k ih =>
    intro ds hk h100
    obtain ⟨h1, h2, h3, h4⟩ := ih ds (by omega) (by omega)
    obtain ⟨d, hd⟩ : ∃ d, ds[k]? = some d := ⟨ds[k]'(by omega), List.getElem?_eq_getElem (by omega)⟩
    rw [runs_take _ _ hd]
    have h5 := h1.step_times col d
    have h6 := h1.step_len col d
    exact ⟨h1.step hw (by omega) (by omega) col d, by show (rstep _ _ _ _).1.os.length ≤ k + 1; omega, by show 0 ≤ (rstep _ _ _ _).1.x.times; omega, by show (rstep _ _ _ _).1.x.times ≤ _; omega⟩
theorem runsX_times {words : Int} (hw : 0 ≤ words) (col : Int) {ds : List Dd} (hn : ds.length ≤ 100) (n : Nat) : ∀ j, n + j ≤ ds.length → (runs (rstep col words) startX (ds.take n)).1.x.times ≤ (runs (rstep col words) startX (ds.take (n + j))).1.x.times := by
  intro j
  induction j with
  | zero => intro _; exact Int.le_refl _
  | succ j ih =>
    intro hj
    obtain ⟨d, hd⟩ : ∃ d, ds[n + j]? = some d := ⟨ds[n + j]'(by omega), List.getElem?_eq_getElem (by omega)⟩
    rw [← Nat.add_assoc, runs_take _ _ hd]
    have h1 := ((runsX_inv hw col (n + j) ds (by omega) (by omega)).1.step_times col d).1
    exact Int.le_trans (ih (by omega)) h1
end Go.Proofs.Ytmmcjjklmcfegaa

/- A memory with so many words: who moves stands packed; two of them side by side. Plain. -/
namespace Go.Proofs.Ytmmcjjklmcfegaa

/-- Two machines, step by step. -/
theorem step2 {X Y : Type} (K1 : Kd X) (K2 : Kd Y) (E : Prop) (J : Sm X → Sm Y → Prop) (s1 : Sm X) (s2 : Sm Y) (d : Dd) (hJ : J s1 s2) (hreg : s1.regs = s2.regs) (hF : Fine s1.regs s1.os)
    (hobj : ∀ v ∈ s1.regs, v.ref = true → objAt s1.os v.n = objAt s2.os v.n)
    (hset : ∀ (r : Int) v, J (K1.set s1 r v) (K2.set s2 r v))
    (hput : ∀ i (k : Nat) u, Lives s1.os i → RchM s1.regs s1.os i → J (K1.put s1 i k u) (K2.put s2 i k u))
    (hnewN : ∀ n : Nat, n ≤ 4 → (K1.new s1 n).2 = none → E ∨ ((K2.new s2 n).2 = none ∧ J (K1.new s1 n).1 (K2.new s2 n).1))
    (hnewS : ∀ (n : Nat) o (r : Int), n ≤ 4 → (K1.new s1 n).2 = some o → (K2.new s2 n).2 = some o ∧ J (K1.set (K1.new s1 n).1 r ⟨true, o⟩) (K2.set (K2.new s2 n).1 r ⟨true, o⟩)) :
    ((K1.step s1 d).2.code = 6 ∧ E) ∨ ((K1.step s1 d).2 = (K2.step s2 d).2 ∧ J (K1.step s1 d).1 (K2.step s2 d).1) := by
  have hfield : ∀ v, v ∈ s1.regs → ∀ x, fieldC s1.os v x = fieldC s2.os v x := by
    intro v hv x
    unfold fieldC
    split
    · rfl
    · rename_i hr
      rw [hobj v hv (by simpa using hr)]
  have h8 := hF.regs8
  unfold Kd.step
  rw [← hreg]
  split
  · exact .inr ⟨rfl, hJ⟩
  · rename_i hw
    have hw0 : wrongC d = 0 := Classical.byContradiction hw
    obtain ⟨k1, k7, hto, hfr, hn, hn2⟩ := wrong_zero hw0
    split
    · rename_i e1
      have hn4 := hn e1
      have a1 := hnewN d.n.toNat (by omega)
      have a2 := hnewS d.n.toNat
      rcases h1 : K1.new s1 d.n.toNat with ⟨t1, o1⟩
      rcases h2 : K2.new s2 d.n.toNat with ⟨t2, o2⟩
      rw [h1, h2] at a1 a2
      cases o1 with
      | none =>
        rcases a1 rfl with hE | ⟨h3, h4⟩
        · exact .inl ⟨rfl, hE⟩
        · simp only at h3
          subst h3
          exact .inr ⟨rfl, h4⟩
      | some o =>
        obtain ⟨h3, h4⟩ := a2 o d.to_ (by omega) rfl
        simp only at h3
        subst h3
        exact .inr ⟨rfl, h4⟩
    · rename_i e1
      split
      · exact .inr ⟨rfl, hset _ _⟩
      · rename_i e2
        have hf := hfr (by omega)
        have hmf := mem_reg h8 hf.1 hf.2
        split
        · exact .inr ⟨rfl, hset _ _⟩
        · split
          · rename_i e4
            have ht := hto (by omega)
            have hmt := mem_reg h8 ht.1 ht.2
            rw [← hfield _ hmt]
            split
            · exact .inr ⟨rfl, hJ⟩
            · rename_i hfc
              have hfc0 : fieldC s1.os (Proofs.Ytmmcjjklmcfegaa.reg s1.regs d.to_) d.at_ = 0 := Classical.byContradiction hfc
              obtain ⟨f1, f2, f3⟩ := field_zero hfc0
              exact .inr ⟨rfl, hput _ _ _ ((hF.regs _ hmt).1 f1) (.root hmt f1)⟩
          · split
            · rw [← hfield _ hmf]
              split
              · exact .inr ⟨rfl, hJ⟩
              · rename_i hfc
                have hfc0 : fieldC s1.os (Proofs.Ytmmcjjklmcfegaa.reg s1.regs d.frm) d.at_ = 0 := Classical.byContradiction hfc
                obtain ⟨f1, f2, f3⟩ := field_zero hfc0
                rw [← hobj _ hmf f1]
                exact .inr ⟨rfl, hset _ _⟩
            · split
              · exact .inr ⟨rfl, hJ⟩
              · refine .inr ⟨?_, hJ⟩
                simp only
                split
                · rename_i hr
                  rw [hobj _ hmf hr]
                · rfl

def PkI (os : Os) (a : List Int) : Prop := ∃ l : List Int, l.Perm (thereL os os.length) ∧ Pk os a l 0
def tot (os : Os) : Int := totL os (thereL os os.length)
theorem roomF_pk {words n : Int} {os : Os} {a : List Int} : ∀ {l : List Int} {next : Int}, Pk os a l next → roomF false words n os a l next = if n ≤ words - (next + totL os l) then next + totL os l else -1 := by
  intro l
  induction l with
  | nil => intro next _; simp [roomF, totL]
  | cons i l ih =>
    intro next h
    unfold roomF
    rw [if_neg (by simp), h.1, ih h.2, totL_cons, Int.add_assoc]
theorem PkI.row {words : Int} {os : Os} {a : List Int} (h : PkI os a) (hP : PlI words os a) : Pk os a (rowL os a) 0 := by
  obtain ⟨l, h1, h2⟩ := h
  rw [← rowL_unique hP h1 (h2.says.1.imp fun {x y} h => by have := szO_pos os x; omega)]
  exact h2
theorem room_pk {col words : Int} (hc : col = 2 ∨ col = 3) {s : Sm Rx} (h : PlI words s.os s.x.at_) (hp : PkI s.os s.x.at_) (n : Int) : roomS col words s n = if n ≤ words - tot s.os then tot s.os else -1 := by
  have e : decide (col = 1) = false := by simp; omega
  unfold roomS
  rw [e, roomF_pk (hp.row h), totL_perm (rowL_perm _ _), Int.zero_add]
  rfl
theorem room_fits {col words : Int} (hc : col = 2 ∨ col = 3) {s : Sm Rx} (h : PlI words s.os s.x.at_) (hp : PkI s.os s.x.at_) (n : Int) : 0 ≤ roomS col words s n ↔ n ≤ words - tot s.os := by
  rw [room_pk hc h hp]
  have := totL_pos s.os (thereL s.os s.os.length)
  split
  · rename_i h1; exact ⟨fun _ => h1, fun _ => this⟩
  · rename_i h1; exact ⟨fun h => absurd h (by decide), fun h => absurd h h1⟩
theorem InvX.clear_pk {words : Int} {s : Sm Rx} (h : InvX words s) (hw : 0 ≤ words) {col : Int} (hc : col = 2 ∨ col = 3) : PkI (clearS col s).os (clearS col s).x.at_ := by
  have hk := h.pl.kill (foundL s.regs s.os)
  unfold clearS
  simp only
  rcases hc with rfl | rfl
  · rw [if_pos rfl]
    exact ⟨_, h.foundPerm, (hk.down hw h.foundPerm).2⟩
  · rw [if_neg (by decide), if_pos rfl]
    exact ⟨_, rowL_perm _ _, (hk.down hw (rowL_perm _ _)).2⟩
theorem thereL_push (os : Os) (n : Nat) : thereL (os ++ [some (zerosV n)]) (os ++ [some (zerosV n)]).length = thereL os os.length ++ [(os.length : Int)] := by
  rw [List.length_append, List.length_singleton, thereL_yes (l := zerosV n) (by rw [List.getElem?_append_right (Nat.le_refl _)]; simp)]
  congr 1
  unfold thereL
  congr 1
  refine List.filter_congr fun i hi => ?_
  rw [List.getElem?_append_left (List.mem_range.1 hi)]
theorem pk_append {os : Os} {a : List Int} {x : Int} : ∀ {l : List Int} {next : Int}, Pk os a l next → cAt a x = next + totL os l → Pk os a (l ++ [x]) next := by
  intro l
  induction l with
  | nil => intro next _ h; exact ⟨by simpa [totL] using h, trivial⟩
  | cons i l ih =>
    intro next h h2
    refine ⟨h.1, ih h.2 ?_⟩
    rw [h2, totL_cons, Int.add_assoc]
theorem pk_same {os os' : Os} {a b : List Int} : ∀ {l : List Int} {next : Int}, (∀ x ∈ l, cAt b x = cAt a x ∧ szO os' x = szO os x) → Pk os a l next → Pk os' b l next ∧ totL os' l = totL os l := by
  intro l
  induction l with
  | nil => intro next _ _; exact ⟨trivial, rfl⟩
  | cons i l ih =>
    intro next h h2
    have hi := h i (List.mem_cons_self ..)
    have := ih (fun x hx => h x (List.mem_cons_of_mem _ hx)) h2.2
    refine ⟨⟨by rw [hi.1]; exact h2.1, by rw [hi.2]; exact this.1⟩, ?_⟩
    rw [totL_cons, totL_cons, hi.2, this.2]
theorem PkI.push {words : Int} {os : Os} {a : List Int} (h : PkI os a) (hP : PlI words os a) (n : Nat) : PkI (os ++ [some (zerosV n)]) (a ++ [tot os]) := by
  obtain ⟨l, h1, h2⟩ := h
  have hm : ∀ x ∈ l, Lives os x := fun x hx => ((mem_thereL (Nat.le_refl _)).1 (h1.mem_iff.1 hx)).1
  have hs : ∀ x ∈ l, cAt (a ++ [tot os]) x = cAt a x ∧ szO (os ++ [some (zerosV n)]) x = szO os x := fun x hx => by
    have hl := hm x hx
    refine ⟨?_, by unfold szO; rw [objAt_push' hl]⟩
    rw [cAt_push _ _ _ hl.1, if_neg]
    have := hl.lt; have := hl.1; have := hP.len; omega
  obtain ⟨h3, h4⟩ := pk_same hs h2
  refine ⟨l ++ [(os.length : Int)], by rw [thereL_push]; exact h1.append_right _, pk_append h3 ?_⟩
  rw [cAt_push _ _ _ (by omega), if_pos (by rw [hP.len]), h4, Int.zero_add]
  exact totL_perm h1.symm
theorem put_lives {os : Os} {j : Int} (hj : Lives os j) (l : List V) (i : Int) : Lives (os.set j.toNat (some l)) i ↔ Lives os i := by
  constructor
  · rintro ⟨h0, m, hl⟩
    by_cases e : j.toNat = i.toNat
    · have : i = j := by have := hj.1; omega
      rw [this]; exact hj
    · rw [List.getElem?_set_ne e] at hl; exact ⟨h0, m, hl⟩
  · intro h; exact h.put l
theorem there_ext {os os' : Os} (h : ∀ i, Lives os i ↔ Lives os' i) : (thereL os os.length).Perm (thereL os' os'.length) := by
  refine (List.perm_ext_iff_of_nodup (rising_nodup (thereL_rising _ _)) (rising_nodup (thereL_rising _ _))).2 fun x => ?_
  rw [mem_thereL (Nat.le_refl _), mem_thereL (Nat.le_refl _), h]
  constructor
  · rintro ⟨h1, _⟩; exact ⟨h1, by have := h1.lt; have := h1.1; omega⟩
  · rintro ⟨h1, _⟩; have h2 := (h x).2 h1; exact ⟨h1, by have := h2.lt; have := h2.1; omega⟩
theorem put_sz {os : Os} {j : Int} (hj : Lives os j) (k : Nat) (u : V) (i : Int) (h0 : 0 ≤ i) : szO (os.set j.toNat (some ((objAt os j).set k u))) i = szO os i := by
  have := hj.lt
  have := hj.1
  unfold szO
  rw [objAt_set _ h0 hj.1 (by omega)]
  split
  · rename_i e; subst e; rw [List.length_set]
  · rfl
theorem PkI.put {os : Os} {a : List Int} (h : PkI os a) {j : Int} (hj : Lives os j) (k : Nat) (u : V) : PkI (os.set j.toNat (some ((objAt os j).set k u))) a := by
  obtain ⟨l, h1, h2⟩ := h
  refine ⟨l, h1.trans (there_ext fun i => (put_lives hj _ i).symm), (pk_same (fun x hx => ⟨rfl, put_sz hj k u x ?_⟩) h2).1⟩
  exact ((mem_thereL (Nat.le_refl _)).1 (h1.mem_iff.1 hx)).1.1
theorem InvX.step_pk {words : Int} {s : Sm Rx} (h : InvX words s) (hp : PkI s.os s.x.at_) (hw : 0 ≤ words) {col : Int} (hc : col = 2 ∨ col = 3) (d : Dd) : PkI (rstep col words s d).1.os (rstep col words s d).1.x.at_ := by
  unfold rstep
  split
  · exact h.clear_pk hw hc
  · refine step_keepR (rKd col words) (fun t => PkI t.os t.x.at_) s d hp h.fine (fun v u => h.fld) (fun r v _ _ hv hr => hp) (fun i k u hi hir hk hu hur => hp.put hi k u) ?_ ?_
    · intro n hn he
      unfold rKd at he ⊢
      simp only at he ⊢
      split at he
      · cases he
      · rename_i h1
        rw [if_neg h1]
        split at he
        · cases he
        · rename_i h2
          rw [if_neg h2]; exact h.clear_pk hw hc
    · intro n o r hn _ _ he
      unfold rKd Kd.set at *
      simp only at he ⊢
      split at he
      · rename_i h1
        rw [if_pos h1]
        have e := room_pk hc h.pl hp (1 + n)
        have h2 := (room_fits hc h.pl hp (1 + n)).1 h1
        rw [if_pos h2] at e
        show PkI (s.os ++ [_]) (s.x.at_ ++ [roomS col words s (1 + n)])
        rw [e]
        exact hp.push h.pl n
      · rename_i h1
        rw [if_neg h1]
        split at he
        · rename_i h2
          rw [if_pos h2]
          have hI := h.clear_pl hw col
          have hq := h.clear_pk hw hc
          have e := room_pk hc hI hq (1 + n)
          have h3 := (room_fits hc hI hq (1 + n)).1 h2
          rw [if_pos h3] at e
          show PkI ((clearS col s).os ++ [_]) ((clearS col s).x.at_ ++ [roomS col words (clearS col s) (1 + n)])
          rw [e]
          exact hq.push hI n
        · cases he
theorem runsX_pk {words : Int} (hw : 0 ≤ words) {col : Int} (hc : col = 2 ∨ col = 3) : ∀ (k : Nat) (ds : List Dd), k ≤ ds.length → k ≤ 100 → PkI (runs (rstep col words) startX (ds.take k)).1.os (runs (rstep col words) startX (ds.take k)).1.x.at_ := by
  intro k
  induction k with
  | zero =>
    intro ds _ _
    rw [List.take_zero]
    exact ⟨[], List.Perm.refl _, trivial⟩
  | succ k ih =>
    intro ds hk h100
    have h1 := ih ds (by omega) (by omega)
    obtain ⟨d, hd⟩ : ∃ d, ds[k]? = some d := ⟨ds[k]'(by omega), List.getElem?_eq_getElem (by omega)⟩
    rw [runs_take _ _ hd]
    exact (runsX_inv hw col k ds (by omega) (by omega)).1.step_pk h1 hw hc d
/-- Alike: who moves in the order of finding, and who moves down. -/
structure Alk (s t : Sm Rx) : Prop where
  regs : s.regs = t.regs
  os : s.os = t.os
  times : s.x.times = t.x.times
theorem Alk.clear {s t : Sm Rx} (h : Alk s t) : Alk (clearS 2 s) (clearS 3 t) := by
  refine ⟨h.regs, ?_, ?_⟩
  · show killed s.os (foundL s.regs s.os) = killed t.os (foundL t.regs t.os)
    rw [h.regs, h.os]
  · show s.x.times + 1 = t.x.times + 1
    rw [h.times]
theorem Alk.step {words : Int} {s t : Sm Rx} (h : Alk s t) (hw : 0 ≤ words) (hs : InvX words s) (ht : InvX words t) (hps : PkI s.os s.x.at_) (hpt : PkI t.os t.x.at_) (d : Dd) : (rstep 2 words s d).2 = (rstep 3 words t d).2 ∧ Alk (rstep 2 words s d).1 (rstep 3 words t d).1 := by
  unfold rstep
  split
  · exact ⟨rfl, h.clear⟩
  · have f1 : ∀ n, (0 ≤ roomS 2 words s n ↔ 0 ≤ roomS 3 words t n) := fun n => by
      rw [room_fits (.inl rfl) hs.pl hps, room_fits (.inr rfl) ht.pl hpt, h.os]
    have f2 : ∀ n, (0 ≤ roomS 2 words (clearS 2 s) n ↔ 0 ≤ roomS 3 words (clearS 3 t) n) := fun n => by
      rw [room_fits (.inl rfl) (hs.clear_pl hw 2) (hs.clear_pk hw (.inl rfl)), room_fits (.inr rfl) (ht.clear_pl hw 3) (ht.clear_pk hw (.inr rfl)), h.clear.os]
    have hnew : ∀ n : Nat, ((rKd 2 words).new s n).2 = ((rKd 3 words).new t n).2 ∧ Alk ((rKd 2 words).new s n).1 ((rKd 3 words).new t n).1 := by
      intro n
      unfold rKd
      simp only
      by_cases h1 : 0 ≤ roomS 2 words s (1 + n)
      · rw [if_pos h1, if_pos ((f1 _).1 h1)]
        refine ⟨by rw [h.os], h.regs, ?_, h.times⟩
        show s.os ++ _ = t.os ++ _
        rw [h.os]
      · rw [if_neg h1, if_neg (fun h => h1 ((f1 _).2 h))]
        by_cases h2 : 0 ≤ roomS 2 words (clearS 2 s) (1 + n)
        · rw [if_pos h2, if_pos ((f2 _).1 h2)]
          refine ⟨by rw [h.os], h.clear.regs, ?_, h.clear.times⟩
          show (clearS 2 s).os ++ _ = (clearS 3 t).os ++ _
          rw [h.clear.os]
        · rw [if_neg h2, if_neg (fun h => h2 ((f2 _).2 h))]
          exact ⟨rfl, h.clear⟩
    have hset : ∀ {s t : Sm Rx}, Alk s t → ∀ (r : Int) (v : V), Alk ((rKd 2 words).set s r v) ((rKd 3 words).set t r v) := by
      intro s t h r v
      refine ⟨?_, h.os, h.times⟩
      show s.regs.set _ _ = t.regs.set _ _
      rw [h.regs]
    rcases step2 (rKd 2 words) (rKd 3 words) False Alk s t d h h.regs hs.fine (fun v _ _ => by rw [h.os]) (fun r v => hset h r v) (fun i k u _ _ => ⟨h.regs, by
        show s.os.set _ _ = t.os.set _ _
        rw [h.os], h.times⟩) (fun n _ hN => .inr ⟨(hnew n).1.symm.trans hN, (hnew n).2⟩) (fun n o r _ hS => ⟨(hnew n).1.symm.trans hS, hset (hnew n).2 r _⟩) with ⟨_, h2⟩ | h2
    · exact h2.elim
    · exact h2
theorem runs_alike {words : Int} (hw : 0 ≤ words) {ds : List Dd} (hn : ds.length ≤ 100) : ∀ k, k ≤ ds.length → (runs (rstep 2 words) startX (ds.take k)).2 = (runs (rstep 3 words) startX (ds.take k)).2 ∧ Alk (runs (rstep 2 words) startX (ds.take k)).1 (runs (rstep 3 words) startX (ds.take k)).1 := by
  intro k
  induction k with
  | zero => intro _; exact ⟨rfl, rfl, rfl, rfl⟩
  | succ k ih =>
    intro hk
    obtain ⟨h1, h2⟩ := ih (by omega)
    obtain ⟨d, hd⟩ : ∃ d, ds[k]? = some d := ⟨ds[k]'(by omega), List.getElem?_eq_getElem (by omega)⟩
    rw [runs_take _ _ hd, runs_take _ _ hd]
    have h3 := h2.step hw (runsX_inv hw 2 k ds (by omega) (by omega)).1 (runsX_inv hw 3 k ds (by omega) (by omega)).1 (runsX_pk hw (.inl rfl) k ds (by omega) (by omega)) (runsX_pk hw (.inr rfl) k ds (by omega) (by omega)) d
    refine ⟨?_, h3.2⟩
    show _ ++ [_] = _ ++ [_]
    rw [h1, h3.1]
theorem totL_sub {os : Os} : ∀ {l m : List Int}, l.Nodup → (∀ x ∈ l, x ∈ m) → totL os l ≤ totL os m := by
  intro l
  induction l with
  | nil => intro m _ _; exact totL_pos os m
  | cons x l ih =>
    intro m hn hs
    rw [List.nodup_cons] at hn
    have hx := hs x (List.mem_cons_self ..)
    have h1 := ih (m := m.erase x) hn.2 (fun y hy => by
      rw [List.mem_erase_of_ne (by rintro rfl; exact hn.1 hy)]
      exact hs y (List.mem_cons_of_mem _ hy))
    have h2 := totL_perm (os := os) (List.perm_cons_erase hx)
    rw [totL_cons] at h2 ⊢
    omega
/-- One has no more than the other, and that as the other has it. -/
def Les (a b : Os) : Prop := ∀ i, Lives a i → b[i.toNat]? = a[i.toNat]?
theorem Les.lives {a b : Os} (h : Les a b) {i : Int} (hi : Lives a i) : Lives b i := ⟨hi.1, _, (h i hi).trans hi.obj⟩
theorem Les.tot {a b : Os} (h : Les a b) : tot a ≤ tot b := by
  unfold Proofs.Ytmmcjjklmcfegaa.tot
  have e : totL a (thereL a a.length) = totL b (thereL a a.length) := by
    unfold totL
    congr 1
    refine List.map_congr_left fun x hx => ?_
    have hl := ((mem_thereL (Nat.le_refl _)).1 hx).1
    unfold szO objAt
    rw [h x hl]
  rw [e]
  refine totL_sub (rising_nodup (thereL_rising _ _)) fun x hx => ?_
  have hl := h.lives ((mem_thereL (Nat.le_refl _)).1 hx).1
  exact (mem_thereL (Nat.le_refl _)).2 ⟨hl, by have := hl.lt; have := hl.1; omega⟩
/-- With more words no more is cleared up. -/
structure Mre (s t : Sm Rx) : Prop where
  kin : ∃ i : Sm Unit, Kin (bare s) i ∧ Kin (bare t) i ∧ InvI i
  times : t.x.times ≤ s.x.times
  les : t.x.times = s.x.times → Les t.os s.os
theorem Mre.regs {s t : Sm Rx} (h : Mre s t) : s.regs = t.regs := by
  obtain ⟨i, h1, h2, _⟩ := h.kin
  exact h1.regs.trans h2.regs.symm
theorem Mre.len {s t : Sm Rx} (h : Mre s t) : s.os.length = t.os.length := by
  obtain ⟨i, h1, h2, _⟩ := h.kin
  exact h1.len.trans h2.len.symm
theorem Mre.same {s t : Sm Rx} (h : Mre s t) {x : Int} (hx : RchM s.regs s.os x) : s.os[x.toNat]? = t.os[x.toNat]? := by
  obtain ⟨i, h1, h2, _⟩ := h.kin
  have := h1.rch.1 hx
  exact (h1.same x this).trans (h2.same x this).symm
theorem Mre.rch {s t : Sm Rx} (h : Mre s t) {x : Int} : RchM s.regs s.os x ↔ RchM t.regs t.os x := by
  obtain ⟨i, h1, h2, _⟩ := h.kin
  exact h1.rch.trans h2.rch.symm
section
variable {words more : Int} {s t : Sm Rx}
/-- What is left behind a clearing is in what the other one has. -/
theorem Mre.lesClear (h : Mre s t) (ht : InvX more t) (col : Int) : Les (clearS col t).os s.os := by
  intro i hi
  obtain ⟨h1, h2⟩ := killed_lives.1 (show Lives (killed t.os (foundL t.regs t.os)) i from hi)
  have h3 := (ht.leads i).1 h2
  rw [h.same (h.rch.2 h3)]
  show t.os[i.toNat]? = (killed t.os (foundL t.regs t.os))[i.toNat]?
  rw [killed_get, Int.toNat_of_nonneg hi.1, if_pos h2]
theorem Mre.lesBoth (h : Mre s t) (hs : InvX words s) (ht : InvX more t) (col : Int) : Les (clearS col t).os (clearS col s).os := by
  intro i hi
  obtain ⟨h1, h2⟩ := killed_lives.1 (show Lives (killed t.os (foundL t.regs t.os)) i from hi)
  have h3 := h.rch.2 ((ht.leads i).1 h2)
  rw [← h.lesClear ht col i hi]
  show (killed s.os (foundL s.regs s.os))[i.toNat]? = _
  rw [killed_get, Int.toNat_of_nonneg hi.1, if_pos ((hs.leads i).2 h3)]
theorem Mre.clears (h : Mre s t) (hs : InvX words s) (ht : InvX more t) (col : Int) : Mre (clearS col s) (clearS col t) := by
  obtain ⟨i, h1, h2, h3⟩ := h.kin
  refine ⟨⟨i, (hs.clearKin col).trans h1, (ht.clearKin col).trans h2, h3⟩, ?_, fun _ => h.lesBoth hs ht col⟩
  show t.x.times + 1 ≤ s.x.times + 1
  have := h.times; omega
theorem Mre.clear1 (h : Mre s t) (hs : InvX words s) (col : Int) : Mre (clearS col s) t := by
  obtain ⟨i, h1, h2, h3⟩ := h.kin
  refine ⟨⟨i, (hs.clearKin col).trans h1, h2, h3⟩, ?_, fun e => ?_⟩
  · show t.x.times ≤ s.x.times + 1
    have := h.times; omega
  · have e2 : t.x.times = s.x.times + 1 := e
    have := h.times; omega
theorem Mre.clear2 (h : Mre s t) (ht : InvX more t) (hlt : t.x.times < s.x.times) (col : Int) : Mre s (clearS col t) := by
  obtain ⟨i, h1, h2, h3⟩ := h.kin
  refine ⟨⟨i, h1, (ht.clearKin col).trans h2, h3⟩, ?_, fun _ => h.lesClear ht col⟩
  show t.x.times + 1 ≤ s.x.times
  omega
theorem Les.push {a b : Os} (h : Les a b) (hl : b.length = a.length) (n : Nat) : Les (a ++ [some (zerosV n)]) (b ++ [some (zerosV n)]) := by
  intro i hi
  rcases lives_push hi with h1 | rfl
  · have := h1.lt
    rw [List.getElem?_append_left (by omega), List.getElem?_append_left this]
    exact h i h1
  · rw [Int.toNat_natCast, List.getElem?_append_right (by omega), List.getElem?_append_right (by omega), hl]
/-- How often they were cleared, and what is there. -/
def JM (s t : Sm Rx) : Prop := t.x.times ≤ s.x.times ∧ (t.x.times = s.x.times → Les t.os s.os)
theorem JM.push (h : JM s t) (hl : s.os.length = t.os.length) (n : Nat) (r : Int) (a b : Int) (c d : Int) : JM (⟨s.regs.set r.toNat ⟨true, c⟩, s.os ++ [some (zerosV n)], ⟨s.x.at_ ++ [a], s.x.times⟩⟩) (⟨t.regs.set r.toNat ⟨true, d⟩, t.os ++ [some (zerosV n)], ⟨t.x.at_ ++ [b], t.x.times⟩⟩) :=
  ⟨h.1, fun e => (h.2 e).push hl n⟩
theorem Mre.jm (h : Mre s t) : JM s t := ⟨h.times, h.les⟩
theorem Mre.step (h : Mre s t) (hw : 0 ≤ words) (hwm : words ≤ more) {col : Int} (hc : col = 2 ∨ col = 3) (hs : InvX words s) (ht : InvX more t) (hps : PkI s.os s.x.at_) (hpt : PkI t.os t.x.at_) (hln : s.os.length < 900) (d : Dd) (h6 : (rstep col words s d).2.code ≠ 6) :
    (rstep col words s d).2 = (rstep col more t d).2 ∧ Mre (rstep col words s d).1 (rstep col more t d).1 := by
  have hwm0 : 0 ≤ more := by omega
  by_cases h8 : d.kind = 8
  · unfold rstep
    rw [if_pos h8, if_pos h8]
    exact ⟨rfl, h.clears hs ht col⟩
  · have es : rstep col words s d = (rKd col words).step s d := by unfold rstep; rw [if_neg h8]
    have et : rstep col more t d = (rKd col more).step t d := by unfold rstep; rw [if_neg h8]
    have key : ((rstep col words s d).2.code = 6 ∧ True) ∨ ((rstep col words s d).2 = (rstep col more t d).2 ∧ JM (rstep col words s d).1 (rstep col more t d).1) := by
      rw [es, et]
      refine step2 (rKd col words) (rKd col more) True JM s t d h.jm h.regs hs.fine (fun v hv hr => ?_) (fun r v => h.jm) (fun i k u hi hir => ?_) (fun n _ _ => .inl trivial) (fun n o r hn he => ?_)
      · unfold objAt
        rw [h.same (.root hv hr)]
      · refine ⟨h.times, fun e => ?_⟩
        have hob : objAt s.os i = objAt t.os i := by unfold objAt; rw [h.same hir]
        intro x hx
        show (s.os.set _ _)[x.toNat]? = (t.os.set _ _)[x.toNat]?
        have hti : Lives t.os i := ht.led i (h.rch.1 hir)
        have hx' := (put_lives hti ((objAt t.os i).set k u) x).1 hx
        have h1 := h.les e x hx'
        rw [hob, List.getElem?_set, List.getElem?_set, h.len, h1]
      · have fs := room_fits hc hs.pl hps (1 + n)
        have ft := room_fits hc ht.pl hpt (1 + n)
        have fsc := room_fits hc (hs.clear_pl hw col) (hs.clear_pk hw hc) (1 + n)
        have ftc := room_fits hc (ht.clear_pl hwm0 col) (ht.clear_pk hwm0 hc) (1 + n)
        have l1 := (h.lesClear ht col).tot
        have l2 := (h.lesBoth hs ht col).tot
        have hl := h.len
        have hlc1 : (clearS col s).os.length = s.os.length := killed_len _ _
        have hlc2 : (clearS col t).os.length = t.os.length := killed_len _ _
        unfold rKd Kd.set at *
        simp only at he ⊢
        by_cases h1 : 0 ≤ roomS col words s (1 + n)
        · rw [if_pos h1] at he ⊢
          have he := Option.some.inj he
          subst he
          have h1' := fs.1 h1
          by_cases h2 : 0 ≤ roomS col more t (1 + n)
          · rw [if_pos h2]
            exact ⟨by rw [hl], h.jm.push hl n r _ _ _ _⟩
          · rw [if_neg h2]
            have h2' : ¬ (1 + n : Int) ≤ more - tot t.os := fun h => h2 (ft.2 h)
            have hlt : t.x.times < s.x.times := by
              have := h.times
              rcases Int.lt_or_eq_of_le this with h3 | h3
              · exact h3
              · have := (h.les h3).tot; omega
            rw [if_pos (ftc.2 (by omega))]
            refine ⟨by rw [hl], ?_⟩
            exact (h.clear2 ht hlt col).jm.push (by rw [hlc2]; exact hl) n r _ _ _ _
        · rw [if_neg h1] at he ⊢
          by_cases h2 : 0 ≤ roomS col words (clearS col s) (1 + n)
          · rw [if_pos h2] at he ⊢
            have he := Option.some.inj he
            subst he
            have h2' := fsc.1 h2
            by_cases h3 : 0 ≤ roomS col more t (1 + n)
            · rw [if_pos h3]
              refine ⟨by rw [hl], ?_⟩
              exact (h.clear1 hs col).jm.push (by rw [hlc1]; exact hl) n r _ _ _ _
            · rw [if_neg h3, if_pos (ftc.2 (by omega))]
              refine ⟨by rw [hl], ?_⟩
              exact (h.clears hs ht col).jm.push (by rw [hlc1, hlc2]; exact hl) n r _ _ _ _
          · rw [if_neg h2] at he; cases he
    rcases key with ⟨h1, _⟩ | ⟨h1, h2⟩
    · exact absurd h1 h6
    · refine ⟨h1, ?_, h2.1, h2.2⟩
      obtain ⟨i, i1, i2, i3⟩ := h.kin
      have hW : wB [8] d.kind = false := by unfold wB; simp [h8]
      have t1 := (hs.tells col d).pure_ hW h6
      have t2 := (ht.tells col d).pure_ hW (by rw [← h1]; exact h6)
      have q1 := kin_step i1 i3 d
      have q2 := kin_step i2 i3 d
      have hil : i.os.length < 900 := by have : s.os.length = i.os.length := i1.len; omega
      exact ⟨_, t1.2.trans q1.2, t2.2.trans q2.2, (i3.step hil d).1⟩
end
theorem startX_ideal : InvI (bare startX) := ⟨(startX_inv 0).fine, fun i hi => by simp [bare, startX] at hi, by simp [bare, startX]⟩
theorem runs_more {words more : Int} (hw : 0 ≤ words) (hwm : words ≤ more) {col : Int} (hc : col = 2 ∨ col = 3) {ds : List Dd} (hn : ds.length ≤ 100) (h6 : ∀ o ∈ (runs (rstep col words) startX ds).2, o.code ≠ 6) : ∀ k, k ≤ ds.length →
    (runs (rstep col words) startX (ds.take k)).2 = (runs (rstep col more) startX (ds.take k)).2 ∧ Mre (runs (rstep col words) startX (ds.take k)).1 (runs (rstep col more) startX (ds.take k)).1 := by
  intro k
  induction k with
  | zero =>
    intro _
    exact ⟨rfl, ⟨bare startX, Kin.refl _, Kin.refl _, startX_ideal⟩, Int.le_refl _, fun _ i hi => rfl⟩
  | succ k ih =>
    intro hk
    obtain ⟨h1, h2⟩ := ih (by omega)
    obtain ⟨d, hd⟩ : ∃ d, ds[k]? = some d := ⟨ds[k]'(by omega), List.getElem?_eq_getElem (by omega)⟩
    have hpre := runs_front (rstep col words) startX ds (k + 1)
    rw [runs_take _ _ hd] at hpre
    rw [runs_take _ _ hd, runs_take _ _ hd]
    have hI := runsX_inv hw col k ds (by omega) (by omega)
    have hc6 : (rstep col words (runs (rstep col words) startX (ds.take k)).1 d).2.code ≠ 6 := h6 _ (hpre.subset (List.mem_append_right _ (List.mem_singleton.2 rfl)))
    have h3 := h2.step hw hwm hc hI.1 (runsX_inv (by omega) col k ds (by omega) (by omega)).1 (runsX_pk hw hc k ds (by omega) (by omega)) (runsX_pk (by omega) hc k ds (by omega) (by omega)) (by omega) d hc6
    refine ⟨?_, h3.2⟩
    show _ ++ [_] = _ ++ [_]
    rw [h1, h3.1]
/-- Kin memories have one graph of what can be come to. -/
theorem kin_iso {a t : Sm Unit} (hK : Kin a t) (hI : InvI t) {c d : G} (hc : CanonS (gOf a.regs a.os) c) (hd : CanonS (gOf t.regs t.os) d) : c = d := by
  obtain ⟨l, dist, hF, rfl⟩ := hd
  have hl := fun x => found_leads hI hF x
  have hS : SIm t a l id := by
    refine ⟨fun x hx => ?_, fun x _ y _ h => h, ?_, fun v hv hr => (hl _).2 (.root hv hr), fun x hx => ?_, fun x hx v hv hr => (hl _).2 ?_⟩
    · have h1 := hI.rch_lives ((hl x).1 hx)
      have h2 := h1.lt
      have h3 := h1.1
      have h4 := hK.len
      refine ⟨⟨h3, by omega⟩, h3, ?_⟩
      show x < _
      omega
    · rw [hK.regs]
      have : ∀ v : V, turnV id v = v := by
        rintro ⟨r, n⟩
        unfold turnV
        split
        · rename_i h; simp only at h; subst h; rfl
        · rfl
      rw [show t.regs.map (turnV id) = t.regs.map id from List.map_congr_left fun v _ => this v, List.map_id]
    · have : ∀ v : V, turnV id v = v := by
        rintro ⟨r, n⟩
        unfold turnV
        split
        · rename_i h; simp only at h; subst h; rfl
        · rfl
      rw [show (objAt t.os x).map (turnV id) = (objAt t.os x).map id from List.map_congr_left fun v _ => this v, List.map_id]
      exact hK.objAt ((hl x).1 hx)
    · exact .step ((hl x).1 hx) (hI.rch_lives ((hl x).1 hx)).obj hv hr
  exact (iso_canon hS.iso ⟨l, dist, hF, rfl⟩ hc).symm
theorem kin_canon {a b t : Sm Unit} (h1 : Kin a t) (h2 : Kin b t) (hI : InvI t) {c d : G} (hc : CanonS (gOf a.regs a.os) c) (hd : CanonS (gOf b.regs b.os) d) : c = d := by
  obtain ⟨l, dist, hF⟩ := found_ex (hI.fine.fits (by have := hI.room; omega)).rng
  exact (kin_iso h1 hI hc ⟨l, dist, hF, rfl⟩).trans (kin_iso h2 hI hd ⟨l, dist, hF, rfl⟩).symm
end Go.Proofs.Ytmmcjjklmcfegaa

/- A memory that is copied while the work goes on. Plain. -/
namespace Go.Proofs.Ytmmcjjklmcfegaa

structure Px where
  row : List Int
  cps : List (Option (List V))
  made : List Int
  filled : Nat
  log : List (Int × Nat)
  times : Int
abbrev Cps := List (Option (List V))
def cpAt (c : Cps) (i : Int) : Option (List V) := (c[i.toNat]?).getD none
/-- What has a copy, and which have, in order. -/
abbrev Cm := Cps × List Int
def needs (c : Cps) (v : V) : Bool := v.ref && (cpAt c v.n).isNone
def copied (os : Os) (p : Cm) (v : V) : Cm := if needs p.1 v = true then (p.1.set v.n.toNat (some (zerosV (objAt os v.n).length)), p.2 ++ [v.n]) else p
def putC (c : Cps) (o : Int) (k : Nat) (v : V) : Cps := c.set o.toNat (some (((cpAt c o).getD []).set k v))
def bring (os : Os) (p : Cm) (o : Int) (k : Nat) : Cm := (putC (copied os p ((objAt os o).getD k ⟨false, 0⟩)).1 o k ((objAt os o).getD k ⟨false, 0⟩), (copied os p ((objAt os o).getD k ⟨false, 0⟩)).2)
def bringN (os : Os) (p : Cm) (o : Int) : Nat → Cm
  | 0 => p
  | k + 1 => bring os (bringN os p o k) o k
def exchO (row : List Int) (c : Cps) (os : Os) : Os := row.foldl (fun o i => o.set i.toNat (cpAt c i)) os
def noCps (n : Nat) : Cps := List.replicate n none
def workP (s : Sm Px) : Sm Px :=
  match s.x.log with
  | (o, k) :: l => if (cpAt s.x.cps o).isSome then ⟨s.regs, s.os, { s.x with cps := (bring s.os (s.x.cps, s.x.made) o k).1, made := (bring s.os (s.x.cps, s.x.made) o k).2, log := l }⟩ else ⟨s.regs, s.os, { s.x with log := l }⟩
  | [] => match s.regs.find? (needs s.x.cps) with
    | some v => ⟨s.regs, s.os, { s.x with cps := (copied s.os (s.x.cps, s.x.made) v).1, made := (copied s.os (s.x.cps, s.x.made) v).2 }⟩
    | none => match s.x.made[s.x.filled]? with
      | some o => ⟨s.regs, s.os, { s.x with cps := (bringN s.os (s.x.cps, s.x.made) o (objAt s.os o).length).1, made := (bringN s.os (s.x.cps, s.x.made) o (objAt s.os o).length).2, filled := s.x.filled + 1 }⟩
      | none => ⟨s.regs, exchO s.x.row s.x.cps s.os, ⟨s.x.made, noCps s.os.length, [], 0, [], s.x.times + 1⟩⟩
def pKd : Kd Px where
  new := fun s n => if 24 ≤ s.x.row.length then (s, none) else (⟨s.regs, s.os ++ [some (zerosV n)], { s.x with row := s.x.row ++ [(s.os.length : Int)], cps := s.x.cps ++ [none] }⟩, some (s.os.length : Int))
  put := fun s i k u => ⟨s.regs, s.os.set i.toNat (some ((objAt s.os i).set k u)), { s.x with log := s.x.log ++ [(i, k)] }⟩
  hold := fun s _ _ => s
def pstep (s : Sm Px) (d : Dd) : Sm Px × Ot := if d.kind = 8 then (workP s, ⟨0, false, 0⟩) else pKd.step s d

theorem cpAt_set (c : Cps) {i j : Int} (hi : 0 ≤ i) (hl : i < c.length) (hj : 0 ≤ j) (x : Option (List V)) : cpAt (c.set i.toNat x) j = if j = i then x else cpAt c j := by
  unfold cpAt
  by_cases e : j = i
  · subst e; rw [List.getElem?_set_self (by omega), if_pos rfl]; rfl
  · rw [List.getElem?_set_ne (by omega), if_neg e]
/-- What is so of copies on the way. -/
structure CpI (os : Os) (p : Cm) : Prop where
  cl : p.1.length = os.length
  nodup : p.2.Nodup
  iff : ∀ x, x ∈ p.2 ↔ 0 ≤ x ∧ (cpAt p.1 x).isSome = true
  live : ∀ x ∈ p.2, Lives os x
  len : ∀ x l, cpAt p.1 x = some l → l.length = (objAt os x).length
theorem CpI.no (os : Os) : CpI os (noCps os.length, []) := by
  have h : ∀ x, cpAt (noCps os.length) x = none := fun x => by
    unfold cpAt noCps
    rw [List.getElem?_replicate]; split <;> rfl
  exact ⟨by simp [noCps], List.nodup_nil, fun x => by rw [h]; simp, fun x hx => (by cases hx), fun x l hl => by rw [h] at hl; cases hl⟩
/-- More copies. -/
structure CpLe (p q : Cm) : Prop where
  cp : ∀ x l, 0 ≤ x → cpAt p.1 x = some l → (cpAt q.1 x).isSome = true
  pre : p.2 <+: q.2
theorem CpLe.refl (p : Cm) : CpLe p p := ⟨fun x l _ h => by rw [h]; rfl, List.prefix_refl _⟩
theorem CpLe.trans {p q r : Cm} (h1 : CpLe p q) (h2 : CpLe q r) : CpLe p r := ⟨fun x l h0 h => by
    obtain ⟨m, hm⟩ := Option.isSome_iff_exists.1 (h1.cp x l h0 h)
    exact h2.cp x m h0 hm, h1.pre.trans h2.pre⟩
theorem CpI.copied {os : Os} {p : Cm} (h : CpI os p) {v : V} (hv : v.ref = true → Lives os v.n) : CpI os (copied os p v) ∧ CpLe p (copied os p v) ∧ (v.ref = true → v.n ∈ (copied os p v).2) ∧ (∀ x l, 0 ≤ x → cpAt p.1 x = some l → cpAt (copied os p v).1 x = some l) := by
  unfold Proofs.Ytmmcjjklmcfegaa.copied
  split
  · rename_i hn
    unfold needs at hn
    rw [Bool.and_eq_true] at hn
    obtain ⟨hr, hno⟩ := hn
    have hno' : cpAt p.1 v.n = none := by simpa using hno
    have hlv := hv hr
    have h0 := hlv.1
    have hlt := hlv.lt
    have hcl := h.cl
    have hat : ∀ j, 0 ≤ j → cpAt (p.1.set v.n.toNat (some (zerosV (objAt os v.n).length))) j = if j = v.n then some (zerosV (objAt os v.n).length) else cpAt p.1 j := fun j hj => cpAt_set _ h0 (by omega) hj _
    have hkeep : ∀ x l, 0 ≤ x → cpAt p.1 x = some l → cpAt (p.1.set v.n.toNat (some (zerosV (objAt os v.n).length))) x = some l := by
      intro x l h1 h2
      rw [hat x h1, if_neg]
      · exact h2
      · rintro rfl; rw [hno'] at h2; cases h2
    refine ⟨⟨by rw [List.length_set]; exact hcl, ?_, ?_, ?_, ?_⟩, ⟨fun x l h1 h2 => by rw [hkeep x l h1 h2]; rfl, List.prefix_append _ _⟩, fun _ => by simp, hkeep⟩
    · rw [List.nodup_append]
      refine ⟨h.nodup, by simp, fun a ha b hb => ?_⟩
      rw [List.mem_singleton] at hb
      subst hb
      rintro rfl
      have := ((h.iff _).1 ha).2
      rw [hno'] at this; cases this
    · intro x
      rw [List.mem_append, List.mem_singleton, h.iff]
      constructor
      · rintro (⟨h1, h2⟩ | rfl)
        · obtain ⟨m, hm⟩ := Option.isSome_iff_exists.1 h2
          exact ⟨h1, by rw [hkeep x m h1 hm]; rfl⟩
        · exact ⟨h0, by rw [hat _ h0, if_pos rfl]; rfl⟩
      · rintro ⟨h1, h2⟩
        rw [hat x h1] at h2
        split at h2
        · rename_i e; exact .inr e
        · exact .inl ⟨h1, h2⟩
    · intro x hx
      rcases List.mem_append.1 hx with hx | hx
      · exact h.live x hx
      · rw [List.mem_singleton] at hx; subst hx; exact hlv
    · intro x l hl
      by_cases h1 : 0 ≤ x
      · rw [hat x h1] at hl
        split at hl
        · rename_i e; cases hl; rw [e]; simp [zerosV]
        · exact h.len x l hl
      · have e : x.toNat = 0 := by omega
        have e2 : cpAt (p.1.set v.n.toNat (some (zerosV (objAt os v.n).length))) x = cpAt (p.1.set v.n.toNat (some (zerosV (objAt os v.n).length))) 0 := by unfold cpAt; rw [e]; rfl
        rw [e2, hat 0 (by omega)] at hl
        have e3 : objAt os x = objAt os 0 := by unfold objAt; rw [e]; rfl
        rw [e3]
        split at hl
        · rename_i e4; cases hl; rw [e4]; simp [zerosV]
        · exact h.len 0 l hl
  · rename_i hn
    refine ⟨h, CpLe.refl _, fun hr => ?_, fun _ _ _ h => h⟩
    have hlv := hv hr
    rw [h.iff]
    refine ⟨hlv.1, ?_⟩
    unfold needs at hn
    rw [hr] at hn
    cases hc : cpAt p.1 v.n with
    | none => rw [hc] at hn; exact absurd rfl hn
    | some l => rfl
theorem CpI.putC {os : Os} {p : Cm} (h : CpI os p) {o : Int} (ho : o ∈ p.2) (k : Nat) (v : V) : CpI os (putC p.1 o k v, p.2) ∧ (∀ x, 0 ≤ x → cpAt (putC p.1 o k v) x = if x = o then some (((cpAt p.1 o).getD []).set k v) else cpAt p.1 x) := by
  have hlv := h.live o ho
  have h0 := hlv.1
  have hlt := hlv.lt
  have hcl := h.cl
  have hsome := ((h.iff o).1 ho).2
  obtain ⟨m, hm⟩ := Option.isSome_iff_exists.1 hsome
  have hat : ∀ x, 0 ≤ x → cpAt (Proofs.Ytmmcjjklmcfegaa.putC p.1 o k v) x = if x = o then some (((cpAt p.1 o).getD []).set k v) else cpAt p.1 x := fun x hx => by
    unfold Proofs.Ytmmcjjklmcfegaa.putC
    exact cpAt_set _ h0 (by omega) hx _
  refine ⟨⟨by unfold Proofs.Ytmmcjjklmcfegaa.putC; rw [List.length_set]; exact hcl, h.nodup, fun x => ?_, h.live, fun x l hl => ?_⟩, hat⟩
  · rw [h.iff]
    constructor
    · rintro ⟨h1, h2⟩
      refine ⟨h1, ?_⟩
      rw [hat x h1]; split
      · rfl
      · exact h2
    · rintro ⟨h1, h2⟩
      refine ⟨h1, ?_⟩
      rw [hat x h1] at h2
      split at h2
      · rename_i e; rw [e]; exact hsome
      · exact h2
  · have key : ∀ x l, 0 ≤ x → cpAt (Proofs.Ytmmcjjklmcfegaa.putC p.1 o k v) x = some l → l.length = (objAt os x).length := by
      intro x l h1 hl
      rw [hat x h1] at hl
      split at hl
      · rename_i e
        cases hl
        rw [List.length_set, hm, e]
        exact h.len o m hm
      · exact h.len x l hl
    by_cases h1 : 0 ≤ x
    · exact key x l h1 hl
    · have e : x.toNat = 0 := by omega
      have e2 : cpAt (Proofs.Ytmmcjjklmcfegaa.putC p.1 o k v) x = cpAt (Proofs.Ytmmcjjklmcfegaa.putC p.1 o k v) 0 := by unfold cpAt; rw [e]; rfl
      have e3 : objAt os x = objAt os 0 := by unfold objAt; rw [e]; rfl
      rw [e2] at hl
      rw [e3]; exact key 0 l (by omega) hl
/-- A value that was brought. -/
theorem CpI.bring {os : Os} {p : Cm} (h : CpI os p) (hclo : ∀ (i : Nat) (l : List V), os[i]? = some (some l) → ∀ v ∈ l, v.ref = true → Lives os v.n) {o : Int} (ho : o ∈ p.2) (k : Nat) :
    CpI os (bring os p o k) ∧ CpLe p (bring os p o k) ∧ (∀ v, (objAt os o)[k]? = some v → (v.ref = true → v.n ∈ (bring os p o k).2) ∧ ∃ l, cpAt (bring os p o k).1 o = some l ∧ l[k]? = some v) ∧
      (∀ x l j, 0 ≤ x → cpAt p.1 x = some l → (x ≠ o ∨ j ≠ k) → ∃ l', cpAt (bring os p o k).1 x = some l' ∧ l'[j]? = l[j]?) := by
  obtain ⟨v, hv⟩ : ∃ v, (objAt os o).getD k ⟨false, 0⟩ = v := ⟨_, rfl⟩
  have hlv : v.ref = true → Lives os v.n := by
    intro hr
    have hol := (h.live o ho).obj
    rw [List.getD_eq_getElem?_getD] at hv
    cases hg : (objAt os o)[k]? with
    | none => rw [hg] at hv; simp only [Option.getD_none] at hv; subst hv; cases hr
    | some u => rw [hg] at hv; simp only [Option.getD_some] at hv; subst hv; exact hclo _ _ hol _ (List.mem_of_getElem? hg) hr
  obtain ⟨c1, c2, c3, c4⟩ := h.copied hlv
  have ho2 : o ∈ (Proofs.Ytmmcjjklmcfegaa.copied os p v).2 := c2.pre.subset ho
  obtain ⟨p1, p2⟩ := c1.putC ho2 k v
  have h0 := (h.live o ho).1
  have hso := ((h.iff o).1 ho).2
  obtain ⟨m, hm⟩ := Option.isSome_iff_exists.1 hso
  have hm2 := c4 o m h0 hm
  unfold Proofs.Ytmmcjjklmcfegaa.bring
  rw [hv]
  refine ⟨p1, ⟨fun x l h1 h2 => ?_, c2.pre⟩, fun u hu => ?_, fun x l j h1 h2 hne => ?_⟩
  · rw [p2 x h1]; split
    · rfl
    · rw [c4 x l h1 h2]; rfl
  · have huv : u = v := by rw [← hv, List.getD_eq_getElem?_getD, hu]; rfl
    subst huv
    refine ⟨c3, _, by rw [p2 o h0, if_pos rfl], ?_⟩
    rw [hm2]
    have := h.len o m hm
    have hk := (List.getElem?_eq_some_iff.1 hu).1
    rw [Option.getD_some, List.getElem?_set_self (by omega)]
  · rw [p2 x h1]
    split
    · rename_i e
      subst e
      rw [hm] at h2
      cases h2
      refine ⟨_, rfl, ?_⟩
      rw [hm2, Option.getD_some, List.getElem?_set_ne]
      rcases hne with hne | hne
      · exact absurd rfl hne
      · exact fun e => hne e.symm
    · exact ⟨l, c4 x l h1 h2, rfl⟩
theorem CpI.bringN {os : Os} {p : Cm} (h : CpI os p) (hclo : ∀ (i : Nat) (l : List V), os[i]? = some (some l) → ∀ v ∈ l, v.ref = true → Lives os v.n) {o : Int} (ho : o ∈ p.2) : ∀ k, 
    CpI os (bringN os p o k) ∧ CpLe p (bringN os p o k) ∧ (∀ j v, j < k → (objAt os o)[j]? = some v → (v.ref = true → v.n ∈ (bringN os p o k).2) ∧ ∃ l, cpAt (bringN os p o k).1 o = some l ∧ l[j]? = some v) ∧
      (∀ x (l : List V), 0 ≤ x → cpAt p.1 x = some l → x ≠ o → ∃ l' : List V, cpAt (bringN os p o k).1 x = some l' ∧ ∀ j : Nat, l'[j]? = l[j]?)
  | 0 => ⟨h, CpLe.refl _, fun j v hj => by omega, fun x l _ hl _ => ⟨l, hl, fun _ => rfl⟩⟩
  | k + 1 => by
    obtain ⟨h1, h2, h3, h4⟩ := CpI.bringN h hclo ho k
    have ho2 := h2.pre.subset ho
    obtain ⟨b1, b2, b3, b4⟩ := h1.bring hclo ho2 k
    have h0 := (h.live o ho).1
    refine ⟨b1, h2.trans b2, fun j v hj hv => ?_, fun x l hx hl hne => ?_⟩
    · by_cases e : j = k
      · subst e; exact b3 v hv
      · obtain ⟨h5, l, h6, h7⟩ := h3 j v (by omega) hv
        obtain ⟨l', h8, h9⟩ := b4 o l j h0 h6 (.inr e)
        exact ⟨fun hr => b2.pre.subset (h5 hr), l', h8, by rw [h9]; exact h7⟩
    · obtain ⟨l1, h5, h6⟩ := h4 x l hx hl hne
      have hs := b4 x l1 0 hx h5 (.inl hne)
      obtain ⟨l2, h7, _⟩ := hs
      refine ⟨l2, h7, fun j => ?_⟩
      obtain ⟨l3, h8, h9⟩ := b4 x l1 j hx h5 (.inl hne)
      rw [h7] at h8; cases h8
      rw [h9, h6]
/-- What is always so. -/
structure InvQ (s : Sm Px) : Prop where
  fine : Fine s.regs s.os
  len : s.os.length ≤ 900
  clo : ∀ (i : Nat) (l : List V), s.os[i]? = some (some l) → ∀ v ∈ l, v.ref = true → Lives s.os v.n
  rown : s.x.row.Nodup
  row : ∀ x, x ∈ s.x.row ↔ Lives s.os x
  cp : CpI s.os (s.x.cps, s.x.made)
  fil : s.x.filled ≤ s.x.made.length
  log : ∀ p ∈ s.x.log, Lives s.os p.1 ∧ p.2 < (objAt s.os p.1).length
  con : ∀ (j : Nat) (x : Int), j < s.x.filled → s.x.made[j]? = some x → ∀ (k : Nat) v, (objAt s.os x)[k]? = some v → (x, k) ∈ s.x.log ∨ ((v.ref = true → v.n ∈ s.x.made) ∧ ∃ l, cpAt s.x.cps x = some l ∧ l[k]? = some v)
theorem InvQ.led {s : Sm Px} (h : InvQ s) {i : Int} (hi : RchM s.regs s.os i) : Lives s.os i :=
  hi.least (fun v hv hr => (h.fine.regs v hv).1 hr) (fun _ _ _ hl v hv hr => h.clo _ _ hl v hv hr)
theorem InvQ.fld {s : Sm Px} (h : InvQ s) {v u : V} (hv : v ∈ s.regs) (hr : v.ref = true) (hu : u ∈ objAt s.os v.n) : OkV s.os u := by
  have hl := (h.fine.regs v hv).1 hr
  exact ⟨fun hu2 => h.clo _ _ hl.obj u hu hu2, h.fine.num _ _ hl.obj u hu⟩
theorem exchO_len (row : List Int) (c : Cps) (os : Os) : (exchO row c os).length = os.length := by
  unfold exchO
  induction row generalizing os with
  | nil => rfl
  | cons x row ih => rw [List.foldl_cons, ih, List.length_set]
theorem exchO_get (c : Cps) : ∀ (row : List Int) (os : Os), (∀ x ∈ row, 0 ≤ x) → ∀ i : Nat, (exchO row c os)[i]? = if (i : Int) ∈ row ∧ i < os.length then some (cpAt c (i : Int)) else os[i]? := by
  intro row
  induction row with
  | nil => intro os _ i; simp [exchO]
  | cons x row ih =>
    intro os hl i
    have hx := hl x (List.mem_cons_self ..)
    show (exchO row c (os.set x.toNat (cpAt c x)))[i]? = _
    rw [ih _ (fun y hy => hl y (List.mem_cons_of_mem _ hy)), List.length_set]
    by_cases h1 : (i : Int) ∈ row ∧ i < os.length
    · rw [if_pos h1, if_pos ⟨List.mem_cons_of_mem _ h1.1, h1.2⟩]
    · rw [if_neg h1]
      by_cases h2 : i = x.toNat
      · subst h2
        rw [Int.toNat_of_nonneg hx]
        by_cases h3 : x.toNat < os.length
        · rw [List.getElem?_set_self h3, if_pos ⟨List.mem_cons_self .., h3⟩]
        · rw [List.getElem?_eq_none (by rw [List.length_set]; omega), if_neg (fun h => h3 h.2), List.getElem?_eq_none (by omega)]
      · rw [List.getElem?_set_ne (fun e => h2 e.symm), if_neg]
        rintro ⟨h3, h4⟩
        rcases List.mem_cons.1 h3 with h3 | h3
        · omega
        · exact h1 ⟨h3, h4⟩
/-- All are exchanged: what has no copy goes, all else is as it was. -/
theorem InvQ.exch {s : Sm Px} (h : InvQ s) (hl : s.x.log = []) (hf : s.x.made[s.x.filled]? = none) : exchO s.x.row s.x.cps s.os = killed s.os s.x.made := by
  have hfl : s.x.filled = s.x.made.length := by
    have := List.getElem?_eq_none_iff.1 hf
    have := h.fil
    omega
  apply List.ext_getElem?
  intro i
  rw [exchO_get _ _ _ (fun x hx => ((h.row x).1 hx).1), killed_get]
  by_cases hm : (i : Int) ∈ s.x.made
  · rw [if_pos hm]
    have hlv := h.cp.live _ hm
    have hlt := hlv.lt
    rw [Int.toNat_natCast] at hlt
    rw [if_pos ⟨(h.row _).2 hlv, hlt⟩]
    have hob := hlv.obj
    rw [Int.toNat_natCast] at hob
    rw [hob]
    obtain ⟨m, hm2⟩ := Option.isSome_iff_exists.1 ((h.cp.iff _).1 hm).2
    have hm3 : cpAt s.x.cps (i : Int) = some m := hm2
    rw [hm3]
    have hlen := h.cp.len _ m hm2
    congr 2
    apply List.ext_getElem?
    intro k
    obtain ⟨j, hj⟩ := List.getElem?_of_mem hm
    have hjl := (List.getElem?_eq_some_iff.1 hj).1
    cases hv : (objAt s.os (i : Int))[k]? with
    | none => rw [List.getElem?_eq_none_iff] at hv ⊢; omega
    | some v =>
      rcases h.con j (i : Int) (by omega) hj k v hv with h1 | ⟨_, l, h1, h2⟩
      · rw [hl] at h1; cases h1
      · rw [hm3] at h1; cases h1; exact h2
  · rw [if_neg hm]
    by_cases hi : i < s.os.length
    · rw [if_pos hi]
      by_cases hr : (i : Int) ∈ s.x.row
      · rw [if_pos ⟨hr, hi⟩]
        have : cpAt s.x.cps (i : Int) = none := by
          cases hc : cpAt s.x.cps (i : Int) with
          | none => rfl
          | some l => exact absurd ((h.cp.iff _).2 ⟨by omega, by show (cpAt s.x.cps _).isSome = true; rw [hc]; rfl⟩) hm
        rw [this]
      · rw [if_neg (fun h => hr h.1)]
        cases hc : s.os[i]? with
        | none => rw [List.getElem?_eq_none_iff] at hc; omega
        | some c =>
          cases c with
          | none => rfl
          | some l => exact absurd ((h.row _).2 (lives_nat hc)) hr
    · rw [if_neg hi, if_neg (fun h => hi h.2), List.getElem?_eq_none (by omega)]
/-- What has copies has all that is come to. -/
theorem InvQ.closed {s : Sm Px} (h : InvQ s) (hl : s.x.log = []) (hr : s.regs.find? (needs s.x.cps) = none) (hf : s.x.made[s.x.filled]? = none) {i : Int} (hi : RchM s.regs s.os i) : i ∈ s.x.made := by
  have hfl : s.x.filled = s.x.made.length := by
    have := List.getElem?_eq_none_iff.1 hf
    have := h.fil
    omega
  refine hi.least (P := (· ∈ s.x.made)) (fun v hv hvr => ?_) (fun x l hx hxl v hv hvr => ?_)
  · have h1 := List.find?_eq_none.1 hr v hv
    have h2 := (h.fine.regs v hv).1 hvr
    refine (h.cp.iff _).2 ⟨h2.1, ?_⟩
    unfold needs at h1
    rw [hvr] at h1
    show (cpAt s.x.cps v.n).isSome = true
    cases hc : cpAt s.x.cps v.n with
    | none => rw [hc] at h1; exact absurd rfl h1
    | some _ => rfl
  · obtain ⟨j, hj⟩ := List.getElem?_of_mem hx
    have hjl := (List.getElem?_eq_some_iff.1 hj).1
    have hob : objAt s.os x = l := by unfold objAt; rw [hxl]; rfl
    obtain ⟨k, hk⟩ := List.getElem?_of_mem hv
    rcases h.con j x (by omega) hj k v (by rw [hob]; exact hk) with h1 | ⟨h1, _⟩
    · rw [hl] at h1; cases h1
    · exact h1 hvr
theorem filled_get {m m' : List Int} (hp : m <+: m') {f j : Nat} {x : Int} (hf : f ≤ m.length) (hj : j < f) (h : m'[j]? = some x) : m[j]? = some x := by
  obtain ⟨t, rfl⟩ := hp
  rwa [List.getElem?_append_left (by omega)] at h
/-- Copies that grew: what was in step stays so. -/
theorem InvQ.grow {s : Sm Px} (h : InvQ s) {q : Cm} (hq : CpI s.os q) (log : List (Int × Nat)) (hlog : ∀ p ∈ log, p ∈ s.x.log) (filled : Nat) (hfil : filled ≤ q.2.length)
    (hcon : ∀ (j : Nat) (x : Int), j < filled → q.2[j]? = some x → ∀ (k : Nat) v, (objAt s.os x)[k]? = some v → (x, k) ∈ log ∨ ((v.ref = true → v.n ∈ q.2) ∧ ∃ l, cpAt q.1 x = some l ∧ l[k]? = some v)) :
    InvQ ⟨s.regs, s.os, ⟨s.x.row, q.1, q.2, filled, log, s.x.times⟩⟩ :=
  ⟨h.fine, h.len, h.clo, h.rown, h.row, hq, hfil, fun p hp => h.log p (hlog p hp), hcon⟩
theorem InvQ.work {s : Sm Px} (h : InvQ s) : InvQ (workP s) := by
  unfold workP
  split
  · rename_i o k l hlog
    have hsub : ∀ p ∈ l, p ∈ s.x.log := fun p hp => by rw [hlog]; exact List.mem_cons_of_mem _ hp
    split
    · rename_i hs
      have hl0 := h.log (o, k) (by rw [hlog]; exact List.mem_cons_self ..)
      have ho : o ∈ s.x.made := (h.cp.iff o).2 ⟨hl0.1.1, hs⟩
      obtain ⟨b1, b2, b3, b4⟩ := h.cp.bring h.clo ho k
      refine h.grow b1 l hsub s.x.filled (Nat.le_trans h.fil b2.pre.length_le) ?_
      intro j x hj hx k' v hv
      have hx0 := filled_get b2.pre h.fil hj hx
      have hxm : x ∈ s.x.made := List.mem_of_getElem? hx0
      have hx1 := (h.cp.iff x).1 hxm
      by_cases e : x = o ∧ k' = k
      · obtain ⟨rfl, rfl⟩ := e
        exact .inr (b3 v hv)
      · rcases h.con j x hj hx0 k' v hv with h1 | ⟨h1, m, h2, h3⟩
        · rw [hlog] at h1
          rcases List.mem_cons.1 h1 with h1 | h1
          · cases h1; exact absurd ⟨rfl, rfl⟩ e
          · exact .inl h1
        · right
          refine ⟨fun hr => b2.pre.subset (h1 hr), ?_⟩
          obtain ⟨l', h4, h5⟩ := b4 x m k' hx1.1 h2 (by
            by_cases e1 : x = o
            · exact .inr fun e2 => e ⟨e1, e2⟩
            · exact .inl e1)
          exact ⟨l', h4, by rw [h5]; exact h3⟩
    · rename_i hs
      refine h.grow h.cp l hsub s.x.filled h.fil ?_
      intro j x hj hx k' v hv
      rcases h.con j x hj hx k' v hv with h1 | h1
      · rw [hlog] at h1
        rcases List.mem_cons.1 h1 with h1 | h1
        · cases h1
          have := ((h.cp.iff _).1 (List.mem_of_getElem? hx)).2
          exact absurd this hs
        · exact .inl h1
      · exact .inr h1
  · rename_i hlog
    split
    · rename_i v hv
      have hvm := List.mem_of_find?_eq_some hv
      obtain ⟨c1, c2, c3, c4⟩ := h.cp.copied (h.fine.regs v hvm).1
      refine h.grow c1 s.x.log (fun _ h => h) s.x.filled (Nat.le_trans h.fil c2.pre.length_le) ?_
      intro j x hj hx k' u hu
      have hx0 := filled_get c2.pre h.fil hj hx
      have hx1 := (h.cp.iff x).1 (List.mem_of_getElem? hx0)
      rcases h.con j x hj hx0 k' u hu with h1 | ⟨h1, m, h2, h3⟩
      · exact .inl h1
      · exact .inr ⟨fun hr => c2.pre.subset (h1 hr), m, c4 x m hx1.1 h2, h3⟩
    · rename_i hr
      split
      · rename_i o ho
        have hom : o ∈ s.x.made := List.mem_of_getElem? ho
        obtain ⟨b1, b2, b3, b4⟩ := h.cp.bringN h.clo hom (objAt s.os o).length
        have hfl := (List.getElem?_eq_some_iff.1 ho).1
        refine h.grow b1 s.x.log (fun _ h => h) (s.x.filled + 1) (Nat.le_trans hfl b2.pre.length_le) ?_
        intro j x hj hx k' u hu
        have hx0 := filled_get b2.pre (f := s.x.filled + 1) hfl hj hx
        have hx1 := (h.cp.iff x).1 (List.mem_of_getElem? hx0)
        by_cases e : j = s.x.filled
        · subst e
          rw [ho] at hx0
          cases hx0
          exact .inr (b3 k' u (List.getElem?_eq_some_iff.1 hu).1 hu)
        · rcases h.con j x (by omega) hx0 k' u hu with h1 | ⟨h1, m, h2, h3⟩
          · exact .inl h1
          · have hne : x ≠ o := by
              rintro rfl
              have := (List.getElem?_inj (by show j < s.x.made.length; omega) h.cp.nodup).1 (hx0.trans ho.symm)
              exact e this
            obtain ⟨l', h4, h5⟩ := b4 x m hx1.1 h2 hne
            exact .inr ⟨fun hr => b2.pre.subset (h1 hr), l', h4, by rw [h5]; exact h3⟩
      · rename_i hf
        have hex := h.exch hlog hf
        have hcl := fun i hi => h.closed hlog hr hf (i := i) hi
        rw [hex]
        have hfl : s.x.filled = s.x.made.length := by
          have := List.getElem?_eq_none_iff.1 hf
          have := h.fil
          omega
        have hlvm : ∀ x ∈ s.x.made, Lives (killed s.os s.x.made) x := fun x hx => killed_lives.2 ⟨h.cp.live x hx, hx⟩
        refine ⟨⟨h.fine.regs8, fun v hv => ⟨fun hvr => hlvm _ (hcl _ (.root hv hvr)), (h.fine.regs v hv).2⟩, fun i l hi => h.fine.flen i l (killed_some hi).1, fun i l hi => h.fine.num i l (killed_some hi).1, fun i l hi => ?_⟩, ?_, ?_, h.cp.nodup, ?_, ?_, Nat.le_refl _, fun p hp => (by cases hp), fun j x hj => (by cases hj)⟩
        · rw [killed_len]; exact h.fine.rng i l (killed_some hi).1
        · show (killed _ _).length ≤ 900
          rw [killed_len]; exact h.len
        · intro i l hi v hv hvr
          obtain ⟨h1, h2⟩ := killed_some hi
          obtain ⟨j, hj⟩ := List.getElem?_of_mem h2
          have hjl := (List.getElem?_eq_some_iff.1 hj).1
          obtain ⟨k, hk⟩ := List.getElem?_of_mem hv
          have hob : objAt s.os (i : Int) = l := objAt_nat h1
          rcases h.con j (i : Int) (by omega) hj k v (by rw [hob]; exact hk) with h3 | ⟨h3, _⟩
          · rw [hlog] at h3; cases h3
          · exact hlvm _ (h3 hvr)
        · intro x
          show x ∈ s.x.made ↔ _
          rw [killed_lives]
          exact ⟨fun hx => ⟨h.cp.live x hx, hx⟩, fun hx => hx.2⟩
        · have := CpI.no (killed s.os s.x.made)
          rw [killed_len] at this
          exact this
end Go.Proofs.Ytmmcjjklmcfegaa

/- A memory with young and old objects: what is kept, what goes. Plain. -/
namespace Go.Proofs.Ytmmcjjklmcfegaa

structure Gx where
  old : List Bool
  rem : Int × Int → Bool
  cnt : Nat
def oA (o : List Bool) (i : Int) : Bool := o.getD i.toNat false
/-- Young ones to which some values lead. -/
inductive Yc (os : Os) (o : List Bool) (S : V → Prop) : Int → Prop
  | root {v : V} : S v → v.ref = true → oA o v.n = false → Yc os o S v.n
  | step {i : Int} {v : V} : Yc os o S i → v ∈ objAt os i → v.ref = true → oA o v.n = false → Yc os o S v.n
theorem Yc.least {os : Os} {o : List Bool} {S : V → Prop} {P : Int → Prop} (h1 : ∀ v, S v → v.ref = true → oA o v.n = false → P v.n) (h2 : ∀ i, P i → ∀ v ∈ objAt os i, v.ref = true → oA o v.n = false → P v.n) {i : Int} (h : Yc os o S i) : P i := by
  induction h with
  | root hv hr ho => exact h1 _ hv hr ho
  | step _ hv hr ho ih => exact h2 _ ih _ hv hr ho
theorem Yc.young {os : Os} {o : List Bool} {S : V → Prop} {i : Int} (h : Yc os o S i) : oA o i = false := by
  cases h <;> assumption
/-- What is so behind 'keep'. -/
structure KeepR (os : Os) (S : V → Prop) (o o' : List Bool) : Prop where
  len : o'.length = o.length
  mono : ∀ i, oA o i = true → oA o' i = true
  sound : ∀ i, 0 ≤ i → oA o' i = true → oA o i = true ∨ Yc os o S i
  root : ∀ v, S v → v.ref = true → oA o' v.n = true
  closed : ∀ i, 0 ≤ i → oA o i = false → oA o' i = true → ∀ v ∈ objAt os i, v.ref = true → oA o' v.n = true
theorem bool_no {b : Bool} (h : ¬ b = true) : b = false := by cases b <;> simp_all
theorem KeepR.nil (os : Os) (o : List Bool) : KeepR os (fun _ => False) o o := ⟨rfl, fun _ h => h, fun _ _ h => .inl h, fun _ h => h.elim, fun i _ h1 h2 => by rw [h1] at h2; cases h2⟩
theorem KeepR.congr {os : Os} {S T : V → Prop} {o o' : List Bool} (h : KeepR os S o o') (e : ∀ v, S v ↔ T v) : KeepR os T o o' := by
  have : S = T := funext fun v => propext (e v)
  rw [← this]; exact h
theorem Yc.mono {os : Os} {S T : V → Prop} {o o1 : List Bool} (hm : ∀ i, oA o i = true → oA o1 i = true) (hS : ∀ v, S v → v.ref = true → oA o v.n = false → Yc os o T v.n) {i : Int} (h : Yc os o1 S i) : Yc os o T i := by
  have hf : ∀ i, oA o1 i = false → oA o i = false := fun i hi => bool_no fun h => by rw [hm i h] at hi; cases hi
  exact h.least (fun v hv hr ho => hS v hv hr (hf _ ho)) (fun i hi v hv hr ho => .step hi hv hr (hf _ ho))
theorem KeepR.trans {os : Os} {S T : V → Prop} {o o1 o2 : List Bool} (h1 : KeepR os S o o1) (h2 : KeepR os T o1 o2) : KeepR os (fun v => S v ∨ T v) o o2 := by
  refine ⟨h2.len.trans h1.len, fun i h => h2.mono i (h1.mono i h), fun i h0 h => ?_, fun v hv hr => ?_, fun i h0 hn hy v hv hr => ?_⟩
  · rcases h2.sound i h0 h with h | h
    · rcases h1.sound i h0 h with h | h
      · exact .inl h
      · exact .inr (h.mono (fun _ h => h) fun v hv hr ho => .root (.inl hv) hr ho)
    · exact .inr (h.mono h1.mono fun v hv hr ho => .root (.inr hv) hr ho)
  · rcases hv with hv | hv
    · exact h2.mono _ (h1.root v hv hr)
    · exact h2.root v hv hr
  · cases hc : oA o1 i with
    | true => exact h2.mono _ (h1.closed i h0 hn hc v hv hr)
    | false => exact h2.closed i h0 hc hy v hv hr
theorem oA_set (o : List Bool) {i j : Int} (hi : 0 ≤ i) (hl : i < o.length) (hj : 0 ≤ j) (b : Bool) : oA (o.set i.toNat b) j = if j = i then b else oA o j := by
  unfold oA
  rw [List.getD_eq_getElem?_getD, List.getD_eq_getElem?_getD]
  by_cases e : j = i
  · subst e; rw [List.getElem?_set_self (by omega), if_pos rfl]; rfl
  · rw [List.getElem?_set_ne (by omega), if_neg e]
/-- A young one, and what its fields lead to. -/
theorem KeepR.one {os : Os} {S : V → Prop} {o o1 o2 : List Bool} (h1 : KeepR os S o o1) {v : V} (hr : v.ref = true) (h0 : 0 ≤ v.n) (hl : v.n < o.length) (hn : oA o1 v.n = false) (h2 : KeepR os (fun u => u ∈ objAt os v.n) (o1.set v.n.toNat true) o2) :
    KeepR os (fun u => S u ∨ u = v) o o2 := by
  have hl1 : v.n < (o1.length : Int) := by rw [h1.len]; exact hl
  have hset : ∀ j, 0 ≤ j → oA (o1.set v.n.toNat true) j = if j = v.n then true else oA o1 j := fun j hj => oA_set o1 h0 hl1 hj true
  have hm0 : ∀ i, oA o1 i = true → oA (o1.set v.n.toNat true) i = true := by
    intro i hi
    by_cases hp : 0 ≤ i
    · rw [hset i hp]; split
      · rfl
      · exact hi
    · unfold oA at hi ⊢
      have e : i.toNat = (0 : Int).toNat := by omega
      rw [e] at hi ⊢
      have := hset 0 (Int.le_refl _)
      unfold oA at this
      rw [this]; split
      · rfl
      · exact hi
  have hm : ∀ i, oA o1 i = true → oA o2 i = true := fun i h => h2.mono i (hm0 i h)
  have hv2 : oA o2 v.n = true := h2.mono _ (by rw [hset _ h0, if_pos rfl])
  have hvn : oA o v.n = false := bool_no fun h => by rw [h1.mono _ h] at hn; cases hn
  refine ⟨by rw [h2.len, List.length_set, h1.len], fun i h => hm i (h1.mono i h), fun i hi h => ?_, fun u hu hru => ?_, fun i hi hno hy u hu hru => ?_⟩
  · have hself : Yc os o (fun u => S u ∨ u = v) v.n := .root (.inr rfl) hr hvn
    rcases h2.sound i hi h with h | h
    · rw [hset i hi] at h
      split at h
      · rename_i e; subst e; exact .inr hself
      · rcases h1.sound i hi h with h | h
        · exact .inl h
        · exact .inr (h.mono (fun _ h => h) fun v hv hr ho => .root (.inl hv) hr ho)
    · refine .inr (h.mono (fun i hi => hm0 i (h1.mono i hi)) fun u hu hru ho => .step hself hu hru ho)
  · rcases hu with hu | rfl
    · exact hm _ (h1.root u hu hru)
    · exact hv2
  · cases hc : oA o1 i with
    | true => exact hm _ (h1.closed i hi hno hc u hu hru)
    | false =>
      by_cases e : i = v.n
      · subst e; exact h2.root u hu hru
      · exact h2.closed i hi (by rw [hset i hi, if_neg e]; exact hc) hy u hu hru
theorem KeepR.skip {os : Os} {S : V → Prop} {o o1 : List Bool} (h1 : KeepR os S o o1) {v : V} (h : v.ref = true → oA o1 v.n = true) : KeepR os (fun u => S u ∨ u = v) o o1 := by
  refine ⟨h1.len, h1.mono, fun i hi h => ?_, fun u hu hr => ?_, h1.closed⟩
  · rcases h1.sound i hi h with h | h
    · exact .inl h
    · exact .inr (h.mono (fun _ h => h) fun v hv hr ho => .root (.inl hv) hr ho)
  · rcases hu with hu | rfl
    · exact h1.root u hu hr
    · exact h hr
/-- What is kept, as a function. -/
noncomputable def keepF (os : Os) (S : V → Prop) (o : List Bool) : List Bool := open Classical in (List.range o.length).map fun i : Nat => decide (oA o (i : Int) = true ∨ Yc os o S (i : Int))
theorem keepF_len (os : Os) (S : V → Prop) (o : List Bool) : (keepF os S o).length = o.length := by simp [keepF]
theorem keepF_at {os : Os} {S : V → Prop} {o : List Bool} {i : Int} (h0 : 0 ≤ i) (h : i < o.length) : oA (keepF os S o) i = true ↔ oA o i = true ∨ Yc os o S i := by
  unfold keepF
  have e : ((i.toNat : Nat) : Int) = i := by omega
  conv => lhs; unfold oA
  rw [List.getD_eq_getElem?_getD, List.getElem?_map, List.getElem?_range (by omega)]
  simp only [Option.map_some, Option.getD_some, decide_eq_true_eq]
  rw [e]
  exact Iff.rfl
theorem oA_lt {o : List Bool} {i : Int} (h0 : 0 ≤ i) (h : oA o i = true) : i < o.length := by
  unfold oA at h
  rw [List.getD_eq_getElem?_getD] at h
  rcases Nat.lt_or_ge i.toNat o.length with h1 | h1
  · omega
  · rw [List.getElem?_eq_none h1] at h; cases h
theorem oA_neg {o : List Bool} {i : Int} (h0 : ¬ 0 ≤ i) : oA o i = oA o 0 := by unfold oA; rw [show i.toNat = (0 : Int).toNat by omega]
theorem KeepR.eq {os : Os} {S : V → Prop} {o o' : List Bool} (h : KeepR os S o o') (hS : ∀ v, S v → v.ref = true → 0 ≤ v.n) (hO : ∀ i, ∀ v ∈ objAt os i, v.ref = true → 0 ≤ v.n) : o' = keepF os S o := by
  have key : ∀ i : Int, 0 ≤ i → i < o.length → (oA o' i = true ↔ oA o i = true ∨ Yc os o S i) := by
    intro i h0 hl
    constructor
    · exact h.sound i h0
    · rintro (h1 | h1)
      · exact h.mono i h1
      · have : oA o' i = true ∧ oA o i = false ∧ 0 ≤ i := by
          refine h1.least (P := fun i => oA o' i = true ∧ oA o i = false ∧ 0 ≤ i) (fun v hv hr ho => ⟨h.root v hv hr, ho, hS v hv hr⟩) (fun j hj v hv hr ho => ⟨h.closed j hj.2.2 hj.2.1 hj.1 v hv hr, ho, hO j v hv hr⟩)
        exact this.1
  refine List.ext_getElem? fun i => ?_
  by_cases hi : i < o.length
  · have h1 := key (i : Int) (by omega) (by omega)
    have h2 := keepF_at (os := os) (S := S) (o := o) (i := (i : Int)) (by omega) (by omega)
    have e : oA o' (i : Int) = oA (keepF os S o) (i : Int) := by
      rw [Bool.eq_iff_iff, h1, h2]
    unfold oA at e
    have l1 : i < o'.length := by rw [h.len]; exact hi
    have l2 : i < (keepF os S o).length := by rw [keepF_len]; exact hi
    rw [Int.toNat_natCast, List.getD_eq_getElem?_getD, List.getD_eq_getElem?_getD, List.getElem?_eq_getElem l1, List.getElem?_eq_getElem l2] at e
    rw [List.getElem?_eq_getElem l1, List.getElem?_eq_getElem l2]
    simp only [Option.getD_some] at e
    rw [e]
  · rw [List.getElem?_eq_none (by rw [h.len]; omega), List.getElem?_eq_none (by rw [keepF_len]; omega)]
theorem keepF_is {os : Os} {S : V → Prop} {o : List Bool} (hS : ∀ v, S v → v.ref = true → 0 ≤ v.n ∧ v.n < o.length) (hO : ∀ i, ∀ v ∈ objAt os i, v.ref = true → 0 ≤ v.n ∧ v.n < o.length) : KeepR os S o (keepF os S o) := by
  have up : ∀ i, oA o i = true → oA (keepF os S o) i = true := by
    intro i hi
    by_cases h0 : 0 ≤ i
    · exact (keepF_at h0 (oA_lt h0 hi)).2 (.inl hi)
    · rw [oA_neg h0] at hi ⊢
      exact (keepF_at (Int.le_refl _) (oA_lt (Int.le_refl _) hi)).2 (.inl hi)
  have low : ∀ v : V, 0 ≤ v.n → v.n < o.length → (oA o v.n = false → Yc os o S v.n) → oA (keepF os S o) v.n = true := by
    intro v h0 h1 h2
    refine (keepF_at h0 h1).2 ?_
    cases hc : oA o v.n with
    | true => exact .inl rfl
    | false => exact .inr (h2 hc)
  refine ⟨keepF_len _ _ _, up, fun i h0 h => (keepF_at h0 (by have := oA_lt h0 h; rw [keepF_len] at this; exact this)).1 h, fun v hv hr => low v (hS v hv hr).1 (hS v hv hr).2 fun ho => .root hv hr ho, fun i h0 hn hy v hv hr => ?_⟩
  have h1 := (keepF_at h0 (by have := oA_lt h0 hy; rw [keepF_len] at this; exact this)).1 hy
  rw [hn] at h1
  rcases h1 with h1 | h1
  · cases h1
  · exact low v (hO i v hv hr).1 (hO i v hv hr).2 fun ho => .step h1 hv hr ho
/-- The objects that are old, by number. -/
def oldL (o : List Bool) : List Int := ((List.range o.length).map fun i : Nat => (i : Int)).filter (oA o)
theorem mem_oldL {o : List Bool} {x : Int} : x ∈ oldL o ↔ 0 ≤ x ∧ oA o x = true := by
  unfold oldL
  rw [List.mem_filter]
  constructor
  · rintro ⟨h1, h2⟩
    obtain ⟨i, hi, rfl⟩ := List.mem_map.1 h1
    exact ⟨by omega, h2⟩
  · rintro ⟨h1, h2⟩
    have := oA_lt h1 h2
    exact ⟨List.mem_map.2 ⟨x.toNat, List.mem_range.2 (by omega), by omega⟩, h2⟩
def seedG (s : Sm Gx) (v : V) : Prop := v ∈ s.regs ∨ ∃ p : Int × Int, s.x.rem p = true ∧ (objAt s.os p.1)[p.2.toNat]? = some v
noncomputable def keptG (s : Sm Gx) : List Bool := keepF s.os (seedG s) s.x.old
noncomputable def minorS (s : Sm Gx) : Sm Gx := ⟨s.regs, killed s.os (oldL (keptG s)), ⟨keptG s, fun _ => false, s.x.cnt⟩⟩
def allOld (os : Os) (o : List Bool) : List Bool := (List.range o.length).map fun i : Nat => oA o (i : Int) || ((os[i]?).getD none).isSome
noncomputable def majorS (s : Sm Gx) : Sm Gx := ⟨s.regs, killed s.os (foundL s.regs s.os), ⟨allOld s.os s.x.old, fun _ => false, s.x.cnt⟩⟩
def manyC (b : Bool) (s : Sm Gx) : Nat := (thereL s.os s.os.length).countP fun i => oA s.x.old i == b
noncomputable def makeRoom (room : Int) (s : Sm Gx) : Sm Gx := if room ≤ (manyC false s : Int) then minorS s else s
def pushG (s : Sm Gx) (n : Nat) : Sm Gx := ⟨s.regs, s.os ++ [some (zerosV n)], ⟨s.x.old ++ [false], s.x.rem, s.x.cnt⟩⟩
noncomputable def gKd (room : Int) : Kd Gx where
  new := fun s n => if 24 ≤ manyC true (makeRoom room s) then (makeRoom room s, none) else (pushG (makeRoom room s) n, some ((makeRoom room s).os.length : Int))
  put := fun s i k u => ⟨s.regs, s.os.set i.toNat (some ((objAt s.os i).set k u)), ⟨s.x.old, if oA s.x.old i = true ∧ u.ref = true ∧ oA s.x.old u.n = false then (fun p => if p = (i, (k : Int)) then true else s.x.rem p) else s.x.rem, s.x.cnt + 1⟩⟩
  hold := fun s _ _ => s
noncomputable def gstep (room : Int) (s : Sm Gx) (d : Dd) : Sm Gx × Ot := if d.kind = 8 then (minorS s, ⟨0, false, 0⟩) else if d.kind = 9 then (majorS s, ⟨0, false, 0⟩) else (gKd room).step s d
theorem allOld_at {os : Os} {o : List Bool} (hl : o.length = os.length) {i : Int} (h0 : 0 ≤ i) : oA (allOld os o) i = true ↔ oA o i = true ∨ Lives os i := by
  unfold allOld
  conv => lhs; unfold oA
  rw [List.getD_eq_getElem?_getD, List.getElem?_map]
  have e : ((i.toNat : Nat) : Int) = i := by omega
  rcases Nat.lt_or_ge i.toNat o.length with h | h
  · rw [List.getElem?_range h]
    simp only [Option.map_some, Option.getD_some, Bool.or_eq_true]
    rw [e]
    refine or_congr Iff.rfl ?_
    constructor
    · intro h1
      cases hc : os[i.toNat]? with
      | none => rw [hc] at h1; cases h1
      | some c => cases c with
        | none => rw [hc] at h1; cases h1
        | some l => exact ⟨h0, l, hc⟩
    · rintro ⟨_, l, hl'⟩; rw [hl']; rfl
  · rw [List.getElem?_eq_none (by simpa using h)]
    constructor
    · intro h1; cases h1
    · rintro (h1 | h1)
      · have := oA_lt h0 h1; omega
      · have := h1.lt; omega
theorem allOld_len (os : Os) (o : List Bool) : (allOld os o).length = o.length := by simp [allOld]
/-- What is always so. -/
structure InvG (room : Int) (s : Sm Gx) : Prop where
  fine : Fine s.regs s.os
  len : s.os.length ≤ 900
  olen : s.x.old.length = s.os.length
  clo : ∀ i, Lives s.os i → ∀ v ∈ objAt s.os i, v.ref = true → Lives s.os v.n
  remOk : ∀ p, s.x.rem p = true → Lives s.os p.1 ∧ oA s.x.old p.1 = true ∧ 0 ≤ p.2 ∧ p.2 < (objAt s.os p.1).length
  remAll : ∀ i, Lives s.os i → oA s.x.old i = true → ∀ (k : Nat) v, (objAt s.os i)[k]? = some v → v.ref = true → oA s.x.old v.n = false → s.x.rem (i, (k : Int)) = true
  yng : (manyC false s : Int) ≤ room
section
variable {room : Int} {s : Sm Gx}
theorem InvG.led (h : InvG room s) {i : Int} (hi : RchM s.regs s.os i) : Lives s.os i :=
  hi.least (fun v hv hr => (h.fine.regs v hv).1 hr) (fun j l hj hl v hv hr => h.clo j hj v (by unfold objAt; rw [hl]; exact hv) hr)
theorem InvG.fld (h : InvG room s) {v u : V} (hv : v ∈ s.regs) (hr : v.ref = true) (hu : u ∈ objAt s.os v.n) : OkV s.os u := by
  have hl := (h.fine.regs v hv).1 hr
  exact ⟨fun hu2 => h.clo _ hl u hu hu2, h.fine.num _ _ hl.obj u hu⟩
theorem objAt_dead {os : Os} {i : Int} (h0 : 0 ≤ i) (h : ¬ Lives os i) : objAt os i = [] := by
  unfold objAt
  cases hc : os[i.toNat]? with
  | none => rfl
  | some c => cases c with
    | none => rfl
    | some l => exact absurd ⟨h0, l, hc⟩ h
theorem objAt_neg {os : Os} {i : Int} (h0 : ¬ 0 ≤ i) : objAt os i = objAt os 0 := by unfold objAt; rw [show i.toNat = (0 : Int).toNat by omega]
theorem InvG.fldRng (h : InvG room s) (i : Int) : ∀ v ∈ objAt s.os i, v.ref = true → 0 ≤ v.n ∧ v.n < (s.os.length : Int) := by
  have key : ∀ i, 0 ≤ i → ∀ v ∈ objAt s.os i, v.ref = true → 0 ≤ v.n ∧ v.n < (s.os.length : Int) := by
    intro i h0 v hv hr
    by_cases hl : Lives s.os i
    · have := h.clo i hl v hv hr
      exact ⟨this.1, by have := this.lt; have := ‹Lives s.os v.n›.1; omega⟩
    · rw [objAt_dead h0 hl] at hv; cases hv
  intro v hv hr
  by_cases h0 : 0 ≤ i
  · exact key i h0 v hv hr
  · rw [objAt_neg h0] at hv; exact key 0 (Int.le_refl _) v hv hr
theorem lives_rng {os : Os} {i : Int} (h : Lives os i) : 0 ≤ i ∧ i < (os.length : Int) := ⟨h.1, by have := h.lt; have := h.1; omega⟩
theorem InvG.seed (h : InvG room s) {v : V} (hv : seedG s v) (hr : v.ref = true) : Lives s.os v.n := by
  rcases hv with hv | ⟨p, h1, h2⟩
  · exact (h.fine.regs v hv).1 hr
  · exact h.clo _ (h.remOk p h1).1 v (List.mem_of_getElem? h2) hr
theorem InvG.keep (h : InvG room s) : KeepR s.os (seedG s) s.x.old (keptG s) :=
  keepF_is (fun v hv hr => by rw [h.olen]; exact lives_rng (h.seed hv hr)) (fun i v hv hr => by rw [h.olen]; exact h.fldRng i v hv hr)
/-- What can be come to is kept. -/
theorem InvG.kept (h : InvG room s) {i : Int} (hi : RchM s.regs s.os i) : oA (keptG s) i = true := by
  have hk := h.keep
  have : oA (keptG s) i = true ∧ Lives s.os i := by
    refine hi.least (P := fun i => oA (keptG s) i = true ∧ Lives s.os i) (fun v hv hr => ⟨hk.root v (.inl hv) hr, (h.fine.regs v hv).1 hr⟩) (fun j l hj hl v hv hr => ?_)
    have ho : objAt s.os j = l := by unfold objAt; rw [hl]; rfl
    have hv' : v ∈ objAt s.os j := by rw [ho]; exact hv
    refine ⟨?_, h.clo j hj.2 v hv' hr⟩
    cases hc : oA s.x.old j with
    | false => exact hk.closed j hj.2.1 hc hj.1 v hv' hr
    | true =>
      cases hc2 : oA s.x.old v.n with
      | true => exact hk.mono _ hc2
      | false =>
        obtain ⟨k, hk'⟩ := List.getElem?_of_mem hv'
        exact hk.root v (.inr ⟨_, h.remAll j hj.2 hc k v hk' hr hc2, by rw [Int.toNat_natCast]; exact hk'⟩) hr
  exact this.1
theorem InvG.keptClo (h : InvG room s) {i : Int} (hi : Lives s.os i) (ho : oA (keptG s) i = true) {v : V} (hv : v ∈ objAt s.os i) (hr : v.ref = true) : oA (keptG s) v.n = true := by
  have hk := h.keep
  cases hc : oA s.x.old i with
  | false => exact hk.closed i hi.1 hc ho v hv hr
  | true =>
    cases hc2 : oA s.x.old v.n with
    | true => exact hk.mono _ hc2
    | false =>
      obtain ⟨k, hk'⟩ := List.getElem?_of_mem hv
      exact hk.root v (.inr ⟨_, h.remAll i hi hc k v hk' hr hc2, by rw [Int.toNat_natCast]; exact hk'⟩) hr
theorem InvG.minorKin (h : InvG room s) : Kin (bare (minorS s)) (bare s) := kill_kin fun _ hi => ⟨mem_oldL.2 ⟨(h.led hi).1, h.kept hi⟩, (h.led hi).1⟩
theorem InvG.majorKin (h : InvG room s) : Kin (bare (majorS s)) (bare s) := kill_kin fun i hi => ⟨(foundL_leads h.fine (by have := h.len; omega) (fun _ hi => h.led hi) i).2 hi, (h.led hi).1⟩
theorem many_no {s : Sm Gx} (h : ∀ i, Lives s.os i → oA s.x.old i = true) : manyC false s = 0 := by
  unfold manyC
  rw [List.countP_eq_zero]
  intro i hi
  rw [h i ((mem_thereL (Nat.le_refl _)).1 hi).1]
  simp
theorem kill_fine {regs : List V} {os : Os} {L : List Int} (hF : Fine regs os) (hK : Kin (⟨regs, killed os L, ()⟩ : Sm Unit) ⟨regs, os, ()⟩) : Fine regs (killed os L) := by
  have hsome : ∀ (i : Nat) (l : List V), (killed os L)[i]? = some (some l) → os[i]? = some (some l) := fun i l hi => (killed_some hi).1
  refine ⟨hF.regs8, fun v hv => ⟨fun hr => ?_, (hF.regs v hv).2⟩, fun i l hi => hF.flen i l (hsome i l hi), fun i l hi => hF.num i l (hsome i l hi), fun i l hi => by rw [killed_len]; exact hF.rng i l (hsome i l hi)⟩
  exact (hK.lives (i := v.n) (.root hv hr)).2 ((hF.regs v hv).1 hr)
theorem InvG.minor (h : InvG room s) (h0 : 0 ≤ room) : InvG room (minorS s) := by
  have hlv : ∀ i, Lives (minorS s).os i ↔ Lives s.os i ∧ oA (keptG s) i = true := fun i => by
    show Lives (killed _ _) i ↔ _
    rw [killed_lives, mem_oldL]
    exact ⟨fun h => ⟨h.1, h.2.2⟩, fun h => ⟨h.1, h.1.1, h.2⟩⟩
  have hob : ∀ i, Lives (minorS s).os i → objAt (minorS s).os i = objAt s.os i := fun i hi => killed_obj hi.1 (mem_oldL.2 ⟨hi.1, ((hlv i).1 hi).2⟩)
  refine ⟨kill_fine h.fine h.minorKin, by show (killed _ _).length ≤ 900; rw [killed_len]; exact h.len, ?_, fun i hi v hv hr => ?_, fun p hp => (by cases hp), fun i hi ho k v hk hr hn => ?_, ?_⟩
  · show (keptG s).length = (killed _ _).length
    rw [killed_len, h.keep.len, h.olen]
  · rw [hob i hi] at hv
    have h1 := (hlv i).1 hi
    exact (hlv _).2 ⟨h.clo i h1.1 v hv hr, h.keptClo h1.1 h1.2 hv hr⟩
  · rw [hob i hi] at hk
    have h1 := (hlv i).1 hi
    have h2 : oA (keptG s) v.n = false := hn
    rw [h.keptClo h1.1 h1.2 (List.mem_of_getElem? hk) hr] at h2; cases h2
  · rw [many_no fun i hi => ((hlv i).1 hi).2]; exact h0
theorem InvG.major (h : InvG room s) (h0 : 0 ≤ room) : InvG room (majorS s) := by
  have hlv : ∀ i, Lives (majorS s).os i ↔ RchM s.regs s.os i := fun i => by
    show Lives (killed _ _) i ↔ _
    rw [killed_lives, foundL_leads h.fine (by have := h.len; omega) (fun _ hi => h.led hi) i]
    exact ⟨fun h => h.2, fun h' => ⟨h.led h', h'⟩⟩
  have hob : ∀ i, Lives (majorS s).os i → objAt (majorS s).os i = objAt s.os i := fun i hi => killed_obj hi.1 ((foundL_leads h.fine (by have := h.len; omega) (fun _ hi => h.led hi) i).2 ((hlv i).1 hi))
  have hol : ∀ i, Lives s.os i → oA (majorS s).x.old i = true := fun i hi => (allOld_at h.olen hi.1).2 (.inr hi)
  refine ⟨kill_fine h.fine h.majorKin, by show (killed _ _).length ≤ 900; rw [killed_len]; exact h.len, ?_, fun i hi v hv hr => ?_, fun p hp => (by cases hp), fun i hi ho k v hk hr hn => ?_, ?_⟩
  · show (allOld _ _).length = (killed _ _).length
    rw [killed_len, allOld_len, h.olen]
  · rw [hob i hi] at hv
    have h1 := (hlv i).1 hi
    exact (hlv _).2 (.step h1 (h.led h1).obj hv hr)
  · rw [hob i hi] at hk
    have h1 := h.led ((hlv i).1 hi)
    rw [hol _ (h.clo i h1 v (List.mem_of_getElem? hk) hr)] at hn; cases hn
  · rw [many_no fun i hi => hol i (h.led ((hlv i).1 hi))]; exact h0
end
end Go.Proofs.Ytmmcjjklmcfegaa

/- A memory with young and old objects: each step; runs; what is told. Plain. -/
namespace Go.Proofs.Ytmmcjjklmcfegaa

theorem oA_push (o : List Bool) (b : Bool) {i : Int} (h0 : 0 ≤ i) : oA (o ++ [b]) i = if i = o.length then b else oA o i := by
  unfold oA
  rw [List.getD_eq_getElem?_getD, List.getD_eq_getElem?_getD]
  by_cases h : i.toNat < o.length
  · rw [List.getElem?_append_left h, if_neg (by omega)]
  · rw [List.getElem?_append_right (by omega)]
    by_cases e : i = o.length
    · rw [if_pos e, e]; simp
    · rw [if_neg e, List.getElem?_eq_none (l := o) (by omega), List.getElem?_eq_none (by simp; omega)]
theorem put_objlen' {os : Os} {j : Int} (hj : Lives os j) (k : Nat) (u : V) (i : Int) : (objAt (os.set j.toNat (some ((objAt os j).set k u))) i).length = (objAt os i).length := by
  unfold objAt
  by_cases e : j.toNat = i.toNat
  · rw [← e, List.getElem?_set_self hj.lt]
    simp
  · rw [List.getElem?_set_ne e]
theorem many_perm {b : Bool} {s t : Sm Gx} (hl : ∀ i, Lives s.os i ↔ Lives t.os i) (ho : ∀ i, Lives s.os i → oA s.x.old i = oA t.x.old i) : manyC b s = manyC b t := by
  unfold manyC
  rw [List.Perm.countP_eq _ (there_ext hl)]
  refine List.countP_congr fun i hi => ?_
  rw [ho i ((hl i).2 ((mem_thereL (Nat.le_refl _)).1 hi).1)]
theorem thereL_snoc (os : Os) (l : List V) : (thereL (os ++ [some l]) (os ++ [some l]).length).Perm (thereL os os.length ++ [(os.length : Int)]) := by
  refine (List.perm_ext_iff_of_nodup (rising_nodup (thereL_rising _ _)) ?_).2 fun x => ?_
  · rw [List.nodup_append]
    refine ⟨rising_nodup (thereL_rising _ _), by simp, fun a ha b hb => ?_⟩
    rw [List.mem_singleton] at hb
    subst hb
    have := ((mem_thereL (Nat.le_refl _)).1 ha).2
    omega
  · rw [mem_thereL (Nat.le_refl _), List.mem_append, mem_thereL (Nat.le_refl _), List.mem_singleton, List.length_append, List.length_singleton]
    constructor
    · rintro ⟨⟨h0, m, hm⟩, h2⟩
      rcases Nat.lt_or_ge x.toNat os.length with h | h
      · rw [List.getElem?_append_left h] at hm
        exact .inl ⟨⟨h0, m, hm⟩, by omega⟩
      · right; omega
    · rintro (⟨h1, h2⟩ | rfl)
      · exact ⟨h1.push _, by omega⟩
      · exact ⟨lives_new _ _, by omega⟩
section
variable {room : Int} {s : Sm Gx}
theorem InvG.set (h : InvG room s) {r : Nat} {v : V} (hv : OkV s.os v) : InvG room ⟨s.regs.set r v, s.os, s.x⟩ :=
  ⟨h.fine.setReg r hv, h.len, h.olen, h.clo, h.remOk, h.remAll, h.yng⟩
theorem InvG.put (h : InvG room s) {i : Int} {k : Nat} {u : V} (hi : Lives s.os i) (hk : k < (objAt s.os i).length) (hu : OkV s.os u) : InvG room ((gKd room).put s i k u) := by
  have hlv : ∀ x, Lives (s.os.set i.toNat (some ((objAt s.os i).set k u))) x ↔ Lives s.os x := fun x => put_lives hi _ x
  have hol := put_objlen' hi k u
  have hob : ∀ x, 0 ≤ x → objAt (s.os.set i.toNat (some ((objAt s.os i).set k u))) x = if x = i then (objAt s.os i).set k u else objAt s.os x := fun x hx => objAt_set _ hx hi.1 (by have := hi.lt; have := hi.1; omega) _
  have hup : ∀ p, s.x.rem p = true → ((gKd room).put s i k u).x.rem p = true := by
    intro p hp
    show (if oA s.x.old i = true ∧ u.ref = true ∧ oA s.x.old u.n = false then (fun p => if p = (i, (k : Int)) then true else s.x.rem p) else s.x.rem) p = true
    split
    · simp only; split
      · rfl
      · exact hp
    · exact hp
  refine ⟨h.fine.put hi k hu, ?_, ?_, fun x hx v hv hr => ?_, fun p hp => ?_, fun x hx ho k' v hv hr hn => ?_, ?_⟩
  · show (s.os.set _ _).length ≤ 900
    rw [List.length_set]; exact h.len
  · show s.x.old.length = (s.os.set _ _).length
    rw [List.length_set]; exact h.olen
  · have hx' := (hlv x).1 hx
    refine (hlv _).2 ?_
    have hv2 : v ∈ objAt (s.os.set i.toNat (some ((objAt s.os i).set k u))) x := hv
    rw [hob x hx.1] at hv2
    split at hv2
    · rcases List.mem_or_eq_of_mem_set hv2 with hv2 | rfl
      · exact h.clo i hi v hv2 hr
      · exact hu.1 hr
    · exact h.clo x hx' v hv2 hr
  · have key : s.x.rem p = true ∨ (p = (i, (k : Int)) ∧ oA s.x.old i = true) := by
      have hp : (if oA s.x.old i = true ∧ u.ref = true ∧ oA s.x.old u.n = false then (fun p => if p = (i, (k : Int)) then true else s.x.rem p) else s.x.rem) p = true := hp
      split at hp
      · rename_i hc
        simp only at hp
        split at hp
        · rename_i e; exact .inr ⟨e, hc.1⟩
        · exact .inl hp
      · exact .inl hp
    show Lives (s.os.set _ _) p.1 ∧ oA s.x.old p.1 = true ∧ 0 ≤ p.2 ∧ p.2 < ((objAt (s.os.set i.toNat (some ((objAt s.os i).set k u))) p.1).length : Int)
    rw [hlv, hol]
    rcases key with h1 | ⟨rfl, h1⟩
    · exact h.remOk p h1
    · exact ⟨hi, h1, by simp, by simpa using hk⟩
  · have hv2 : (objAt (s.os.set i.toNat (some ((objAt s.os i).set k u))) x)[k']? = some v := hv
    rw [hob x hx.1] at hv2
    have ho' : oA s.x.old x = true := ho
    have hn' : oA s.x.old v.n = false := hn
    by_cases e : x = i ∧ k' = k
    · obtain ⟨rfl, rfl⟩ := e
      rw [if_pos rfl, List.getElem?_set_self hk] at hv2
      cases hv2
      show (if oA s.x.old x = true ∧ u.ref = true ∧ oA s.x.old u.n = false then (fun p => if p = (x, (k' : Int)) then true else s.x.rem p) else s.x.rem) (x, (k' : Int)) = true
      rw [if_pos ⟨ho', hr, hn'⟩, if_pos rfl]
    · refine hup _ (h.remAll x ((hlv x).1 hx) ho' k' v ?_ hr hn')
      split at hv2
      · rename_i e1
        subst e1
        rwa [List.getElem?_set_ne (fun e2 => e ⟨rfl, e2.symm⟩)] at hv2
      · exact hv2
  · have : manyC false ((gKd room).put s i k u) = manyC false s := many_perm (fun x => hlv x) (fun _ _ => rfl)
    rw [this]; exact h.yng
theorem InvG.mroom (h : InvG room s) (h0 : 0 ≤ room) : InvG room (makeRoom room s) := by
  unfold makeRoom
  split
  · exact h.minor h0
  · exact h
theorem many_push (s : Sm Gx) (n : Nat) (hl : s.x.old.length = s.os.length) (b : Bool) : manyC b (pushG s n) = manyC b s + if b = false then 1 else 0 := by
  unfold manyC pushG
  simp only
  rw [List.Perm.countP_eq _ (thereL_snoc _ _), List.countP_append]
  congr 1
  · refine List.countP_congr fun i hi => ?_
    have hlv := ((mem_thereL (Nat.le_refl _)).1 hi)
    rw [oA_push _ _ hlv.1.1, if_neg (by rw [hl]; have := hlv.2; omega)]
  · rw [List.countP_singleton, show oA (s.x.old ++ [false]) (s.os.length : Int) = false from by rw [oA_push _ _ (by omega), if_pos (by rw [hl])]]
    cases b <;> rfl
theorem makeRoom_young (s : Sm Gx) (h0 : 1 ≤ room) : (manyC false (makeRoom room s) : Int) < room := by
  unfold makeRoom
  split
  · have : manyC false (minorS s) = 0 := many_no fun i hi => by
      have hi' : Lives (killed s.os (oldL (keptG s))) i := hi
      rw [killed_lives, mem_oldL] at hi'
      exact hi'.2.2
    rw [this]; omega
  · omega
theorem InvG.push (h : InvG room s) (hl : s.os.length < 900) (hy : (manyC false s : Int) < room) {n : Nat} (hn : n ≤ 4) (r : Nat) : InvG room ⟨s.regs.set r ⟨true, (s.os.length : Int)⟩, (pushG s n).os, (pushG s n).x⟩ := by
  have hob : ∀ x, Lives s.os x → objAt (s.os ++ [some (zerosV n)]) x = objAt s.os x := fun x hx => objAt_push' hx
  have hnew : objAt (s.os ++ [some (zerosV n)]) (s.os.length : Int) = zerosV n := objAt_new _ _
  have hov : ∀ x, Lives s.os x → oA (s.x.old ++ [false]) x = oA s.x.old x := fun x hx => by
    rw [oA_push _ _ hx.1, if_neg]
    have := hx.lt; have := hx.1; have := h.olen; omega
  have hon : oA (s.x.old ++ [false]) (s.os.length : Int) = false := by rw [oA_push _ _ (by omega), if_pos (by rw [h.olen])]
  refine ⟨(h.fine.push hn).setReg r ⟨fun _ => lives_new _ _, fun h => by cases h⟩, by show (s.os ++ [_]).length ≤ 900; simp; omega, ?_, fun x hx v hv hr => ?_, fun p hp => ?_, fun x hx ho k v hv hr hno => ?_, ?_⟩
  · show (s.x.old ++ [_]).length = (s.os ++ [_]).length
    rw [List.length_append, List.length_append, h.olen]; rfl
  · have hv2 : v ∈ objAt (s.os ++ [some (zerosV n)]) x := hv
    rcases lives_push hx with h1 | rfl
    · rw [hob x h1] at hv2
      exact (h.clo x h1 v hv2 hr).push _
    · rw [hnew] at hv2
      rw [mem_zeros hv2] at hr; cases hr
  · obtain ⟨h1, h2, h3⟩ := h.remOk p hp
    refine ⟨h1.push _, ?_, ?_⟩
    · show oA (s.x.old ++ [false]) p.1 = true
      rw [hov _ h1]; exact h2
    · show 0 ≤ p.2 ∧ p.2 < ((objAt (s.os ++ [_]) p.1).length : Int)
      rw [hob _ h1]; exact h3
  · have hv2 : (objAt (s.os ++ [some (zerosV n)]) x)[k]? = some v := hv
    have ho2 : oA (s.x.old ++ [false]) x = true := ho
    rcases lives_push hx with h1 | rfl
    · rw [hob x h1] at hv2
      rw [hov x h1] at ho2
      have hl2 := h.clo x h1 v (List.mem_of_getElem? hv2) hr
      have hn2 : oA (s.x.old ++ [false]) v.n = false := hno
      rw [hov _ hl2] at hn2
      exact h.remAll x h1 ho2 k v hv2 hr hn2
    · rw [hon] at ho2; cases ho2
  · have h1 := many_push s n h.olen false
    have h2 : manyC false (⟨s.regs.set r ⟨true, (s.os.length : Int)⟩, (pushG s n).os, (pushG s n).x⟩ : Sm Gx) = manyC false (pushG s n) := rfl
    rw [h2, h1, if_pos rfl]
    omega
theorem killed_len' (s : Sm Gx) : (minorS s).os.length = s.os.length := killed_len _ _
theorem makeRoom_len (room : Int) (s : Sm Gx) : (makeRoom room s).os.length = s.os.length := by
  unfold makeRoom
  split
  · exact killed_len' s
  · rfl
theorem makeRoom_regs (room : Int) (s : Sm Gx) : (makeRoom room s).regs = s.regs := by
  unfold makeRoom
  split <;> rfl
theorem InvG.roomKin (h : InvG room s) : Kin (bare (makeRoom room s)) (bare s) := by
  unfold makeRoom
  split
  · exact h.minorKin
  · exact Kin.refl _
theorem InvG.step (h : InvG room s) (h1 : 1 ≤ room) (hl : s.os.length < 900) (d : Dd) : InvG room (gstep room s d).1 := by
  unfold gstep
  split
  · exact h.minor (by omega)
  · split
    · exact h.major (by omega)
    · refine step_keepR (gKd room) (InvG room) s d h h.fine (fun v u => h.fld) (fun r v _ _ hv _ => h.set hv) (fun i k u hi _ hk hu _ => h.put hi hk hu) ?_ ?_
      · intro n hn he
        unfold gKd at he ⊢
        simp only at he ⊢
        split at he
        · rename_i h2; rw [if_pos h2]; exact h.mroom (by omega)
        · cases he
      · intro n o r hn _ _ he
        unfold gKd at he ⊢
        simp only at he ⊢
        split at he
        · cases he
        · rename_i h2
          rw [if_neg h2]
          have he := Option.some.inj he
          subst he
          exact (h.mroom (by omega)).push (by rw [makeRoom_len]; exact hl) (makeRoom_young s h1) hn r.toNat
theorem InvG.tells (h : InvG room s) (d : Dd) : Tells (gstep room) (wB [8, 9]) s d := by
  by_cases h8 : d.kind = 8
  · have e : (gstep room s d).1 = minorS s := by unfold gstep; rw [if_pos h8]
    refine ⟨fun _ => by rw [e]; exact h.minorKin, fun hw => ?_⟩
    rw [h8] at hw; cases hw
  · by_cases h9 : d.kind = 9
    · have e : (gstep room s d).1 = majorS s := by unfold gstep; rw [if_neg h8, if_pos h9]
      refine ⟨fun _ => by rw [e]; exact h.majorKin, fun hw => ?_⟩
      rw [h9] at hw; cases hw
    · have e : gstep room s d = (gKd room).step s d := by unfold gstep; rw [if_neg h8, if_neg h9]
      have hW : wB [8, 9] d.kind = false := by unfold wB; simp [h8, h9]
      have hT := kd_tells (gKd room) (wB [8, 9]) s d h.fine hW (fun v u => h.fld) (fun r v _ _ _ _ => Kin.refl _) (fun i k u _ _ _ _ _ => Kin.refl _) ?_ ?_
      · refine ⟨fun ho => ?_, fun hw h6 => ?_⟩
        · rw [e] at ho ⊢; exact hT.own ho
        · rw [e] at h6 ⊢; exact hT.pure_ hw h6
      · intro n hn he
        unfold gKd at he ⊢
        simp only at he ⊢
        split at he
        · rename_i h1; rw [if_pos h1]; exact h.roomKin
        · cases he
      · intro n o r hn _ _ he
        unfold gKd at he ⊢
        simp only at he ⊢
        split at he
        · cases he
        · rename_i h1
          rw [if_neg h1]
          have he := Option.some.inj he
          subst he
          have hk := kin_new h.roomKin (fun _ hi => h.led hi) n r
          have e1 : ((bare (makeRoom room s)).os.length : Int) = ((makeRoom room s).os.length : Int) := rfl
          have e2 : ((bare s).os.length : Int) = (s.os.length : Int) := rfl
          rw [e2] at hk
          exact hk
theorem InvG.step_len (h : InvG room s) (d : Dd) : (gstep room s d).1.os.length ≤ s.os.length + 1 := by
  have := (h.tells d).len rfl
  rw [this]; split <;> omega
/-- What is old stays old. -/
theorem InvG.step_old (h : InvG room s) (d : Dd) : ∀ i, 0 ≤ i → oA s.x.old i = true → oA (gstep room s d).1.x.old i = true := by
  have hmin : ∀ i, 0 ≤ i → oA s.x.old i = true → oA (minorS s).x.old i = true := fun i _ hi => h.keep.mono i hi
  have hmr : ∀ i, 0 ≤ i → oA s.x.old i = true → oA (makeRoom room s).x.old i = true := by
    unfold makeRoom
    split
    · exact hmin
    · exact fun _ _ h => h
  unfold gstep
  split
  · exact hmin
  · split
    · exact fun i h0 hi => (allOld_at h.olen h0).2 (.inl hi)
    · have hid : ∀ i, 0 ≤ i → oA s.x.old i = true → oA s.x.old i = true := fun _ _ h => h
      refine step_keep (gKd room) (fun t => ∀ i, 0 ≤ i → oA s.x.old i = true → oA t.x.old i = true) s d hid h.fine (fun v u => h.fld) (fun _ _ _ _ _ => hid) (fun i k u _ _ _ => hid) ?_ ?_
      · intro n hn he
        unfold gKd
        simp only
        split
        · exact hmr
        · intro i h0 hi
          show oA (_ ++ [false]) i = true
          rw [oA_push _ _ h0]
          have h2 := hmr i h0 hi
          have h3 := oA_lt h0 h2
          rw [if_neg (by omega)]; exact h2
      · intro n o r hn _ _ he
        unfold gKd Kd.set
        simp only
        split
        · exact hmr
        · intro i h0 hi
          show oA (_ ++ [false]) i = true
          rw [oA_push _ _ h0]
          have h2 := hmr i h0 hi
          have h3 := oA_lt h0 h2
          rw [if_neg (by omega)]; exact h2
theorem InvG.step_cnt (h : InvG room s) (d : Dd) : (gstep room s d).1.x.cnt ≤ s.x.cnt + 1 := by
  have hmr : (makeRoom room s).x.cnt = s.x.cnt := by
    unfold makeRoom
    split <;> rfl
  unfold gstep
  split
  · exact Nat.le_succ _
  · split
    · exact Nat.le_succ _
    · refine step_keep (gKd room) (fun t => t.x.cnt ≤ s.x.cnt + 1) s d (Nat.le_succ _) h.fine (fun v u => h.fld) (fun _ _ _ _ _ => Nat.le_succ _) (fun i k u _ _ _ => Nat.le_refl _) ?_ ?_
      · intro n hn he
        unfold gKd
        simp only
        split
        · show (makeRoom room s).x.cnt ≤ _; omega
        · show (makeRoom room s).x.cnt ≤ _; omega
      · intro n o r hn _ _ he
        unfold gKd Kd.set
        simp only
        split
        · show (makeRoom room s).x.cnt ≤ _; omega
        · show (makeRoom room s).x.cnt ≤ _; omega
end
def startG (g : G) : Sm Gx := ⟨firstR g.roots, g.objs.map some, ⟨List.replicate g.objs.length true, fun _ => false, 0⟩⟩
theorem oA_all {n : Nat} {i : Int} (h0 : 0 ≤ i) (h : i < n) : oA (List.replicate n true) i = true := by
  unfold oA
  rw [List.getD_eq_getElem?_getD, List.getElem?_replicate, if_pos (by omega)]; rfl
theorem startG_inv {g : G} (hG : Good g) {room : Int} (h0 : 0 ≤ room) : InvG room (startG g) := by
  have hI := startI_inv hG
  have hl : (startI g).os.length = g.objs.length := by simp [startI]
  have hold : ∀ i, Lives (startG g).os i → oA (startG g).x.old i = true := fun i hi => oA_all hi.1 (by
    have h1 : i.toNat < (startI g).os.length := hi.lt
    have h2 := hi.1
    omega)
  have hclo : ∀ i, Lives (startG g).os i → ∀ v ∈ objAt (startG g).os i, v.ref = true → Lives (startG g).os v.n := fun i hi v hv hr => (hI.okf hi hv).1 hr
  refine ⟨hI.fine, hI.room, by show (List.replicate _ _).length = (List.map _ _).length; simp, hclo, fun p hp => (by cases hp), fun i hi ho k v hk hr hn => ?_, ?_⟩
  · rw [hold _ (hclo i hi v (List.mem_of_getElem? hk) hr)] at hn; cases hn
  · rw [many_no hold]; exact h0
theorem runsG_inv {g : G} (hG : Good g) {room : Int} (h1 : 1 ≤ room) : ∀ (k : Nat) (ds : List Dd), k ≤ ds.length → k ≤ 100 → InvG room (runs (gstep room) (startG g) (ds.take k)).1 ∧ (runs (gstep room) (startG g) (ds.take k)).1.os.length ≤ 24 + k ∧ (runs (gstep room) (startG g) (ds.take k)).1.x.cnt ≤ k := by
  intro k
  induction k with
  | zero =>
    intro ds _ _
    rw [List.take_zero]
    refine ⟨startG_inv hG (by omega), ?_, Nat.le_refl _⟩
    show (g.objs.map some).length ≤ 24 + 0
    have := hG.objs
    simp; omega
  | succ k ih =>
    intro ds hk h100
    obtain ⟨h2, h3, h4⟩ := ih ds (by omega) (by omega)
    obtain ⟨d, hd⟩ : ∃ d, ds[k]? = some d := ⟨ds[k]'(by omega), List.getElem?_eq_getElem (by omega)⟩
    rw [runs_take _ _ hd]
    have h6 := h2.step_len d
    have h7 := h2.step_cnt d
    exact ⟨h2.step h1 (by omega) d, by show (gstep room _ _).1.os.length ≤ _; omega, by show (gstep room _ _).1.x.cnt ≤ _; omega⟩
section
variable {g : G} (hG : Good g) {room : Int} (h1 : 1 ≤ room) {ds : List Dd} (hn : ds.length ≤ 100)
include hG h1 hn
theorem runsG_tells : ∀ k d, ds[k]? = some d → Tells (gstep room) (wB [8, 9]) (runs (gstep room) (startG g) (ds.take k)).1 d := by
  intro k d hd
  have hk := (List.getElem?_eq_some_iff.1 hd).1
  exact (runsG_inv hG h1 k ds (by omega) (by omega)).1.tells d
theorem gen_told : ∃ t, runs iKd.step (startI g) ((toldF (wB [8, 9]) ds (runs (gstep room) (startG g) ds).2).map Prod.fst) = (t, (toldF (wB [8, 9]) ds (runs (gstep room) (startG g) ds).2).map Prod.snd) ∧ Kin (bare (runs (gstep room) (startG g) ds).1) t ∧ InvI t := by
  have h := told_sim (gstep room) (wB [8, 9]) (startG g) (startI g) (Kin.refl _) (startI_inv hG) ds (by
    have : (startI g).os.length = g.objs.length := by simp [startI]
    have := hG.objs; omega) (runsG_tells hG h1 hn) ds.length (Nat.le_refl _)
  rw [List.take_length] at h
  obtain ⟨t, h1, h2, h3, _⟩ := h
  exact ⟨t, h1, h2, h3⟩
theorem runsG_old (n : Nat) : ∀ j, n + j ≤ ds.length → ∀ i, 0 ≤ i → oA (runs (gstep room) (startG g) (ds.take n)).1.x.old i = true → oA (runs (gstep room) (startG g) (ds.take (n + j))).1.x.old i = true := by
  intro j
  induction j with
  | zero => intro _ i _ h; exact h
  | succ j ih =>
    intro hj i h0 hi
    obtain ⟨d, hd⟩ : ∃ d, ds[n + j]? = some d := ⟨ds[n + j]'(by omega), List.getElem?_eq_getElem (by omega)⟩
    rw [← Nat.add_assoc, runs_take _ _ hd]
    exact (runsG_inv hG h1 (n + j) ds (by omega) (by omega)).1.step_old d i h0 (ih (by omega) i h0 hi)
end
/-- Behind a minor one all are old; behind a major one just what can be come to is there. -/
theorem minor_old (s : Sm Gx) {i : Int} (hi : Lives (minorS s).os i) : oA (minorS s).x.old i = true := by
  have hi' : Lives (killed s.os (oldL (keptG s))) i := hi
  rw [killed_lives, mem_oldL] at hi'
  exact hi'.2.2
theorem InvG.major_old {room : Int} {s : Sm Gx} (h : InvG room s) {i : Int} (hi : Lives (majorS s).os i) : oA (majorS s).x.old i = true := by
  have hi' : Lives (killed s.os (foundL s.regs s.os)) i := hi
  rw [killed_lives] at hi'
  exact (allOld_at h.olen hi.1).2 (.inr hi'.1)
theorem InvG.major_tight {room : Int} {s : Sm Gx} (h : InvG room s) {i : Int} (hi : Lives (majorS s).os i) : RchM (majorS s).regs (majorS s).os i := by
  have hi' : Lives (killed s.os (foundL s.regs s.os)) i := hi
  rw [killed_lives, foundL_leads h.fine (by have := h.len; omega) (fun _ hi => h.led hi) i] at hi'
  exact (h.majorKin.rch (i := i)).2 hi'.2
end Go.Proofs.Ytmmcjjklmcfegaa
