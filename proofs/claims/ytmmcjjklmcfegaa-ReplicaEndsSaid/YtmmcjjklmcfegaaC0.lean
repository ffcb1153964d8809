/- Colours: a memory that marks while the work goes on. Plain. -/
import Derived.Test.YtmmcjjklmcfegaaU0
import Derived.Test.YtmmcjjklmcfegaaM9
namespace Go.Proofs.Ytmmcjjklmcfegaa

def cAt (c : List Int) (i : Int) : Int := c.getD i.toNat 0
def shade (c : List Int) (v : V) : List Int := if v.ref = true ∧ cAt c v.n = 0 then c.set v.n.toNat 1 else c
def shades (c : List Int) (l : List V) : List Int := l.foldl shade c
structure Tx where
  col : List Int
  gone : List Int
/-- What is done where a value comes to stand. -/
def barC (b : Int) (c : List Int) (i : Int) (old u : V) : List Int :=
  if b = 1 then shade c u
  else if b = 2 then (if cAt c i = 2 ∧ (u.ref = true ∧ cAt c u.n = 0) then c.set i.toNat 1 else c)
  else shade c old
def tKd (b : Int) : Kd Tx where
  new := fun s n => if 24 ≤ (thereL s.os s.os.length).length then (s, none) else (⟨s.regs, s.os ++ [some (zerosV n)], ⟨s.x.col ++ [2], s.x.gone⟩⟩, some (s.os.length : Int))
  put := fun s i k u => ⟨s.regs, s.os.set i.toNat (some ((objAt s.os i).set k u)), ⟨barC b s.x.col i ((objAt s.os i).getD k ⟨false, 0⟩) u, s.x.gone⟩⟩
  hold := fun s _ _ => s
/-- Those there that have a colour. -/
def hueL (os : Os) (c : List Int) (h : Int) (k : Nat) : List Int := (thereL os k).filter fun i => cAt c i == h
def workS (s : Sm Tx) : Sm Tx × Int :=
  match (hueL s.os s.x.col 1 s.os.length).head? with
  | none => (s, 7)
  | some i => (⟨s.regs, s.os, ⟨(shades s.x.col (objAt s.os i)).set i.toNat 2, s.x.gone⟩⟩, 0)
def beginC (n : Nat) (regs : List V) : List Int := (targets regs).foldl (fun c j => c.set j.toNat 1) (List.replicate n 0)
def killL (os : Os) (l : List Int) : Os := l.foldl (fun o i => o.set i.toNat none) os
def sweepS (s : Sm Tx) : Sm Tx × Int :=
  if hueL s.os (shades s.x.col s.regs) 1 s.os.length ≠ [] then (⟨s.regs, s.os, ⟨shades s.x.col s.regs, s.x.gone⟩⟩, 8)
  else (⟨s.regs, killL s.os (hueL s.os (shades s.x.col s.regs) 0 s.os.length), ⟨beginC s.x.col.length s.regs, s.x.gone ++ hueL s.os (shades s.x.col s.regs) 0 s.os.length⟩⟩, 0)
def tstep (b : Int) (s : Sm Tx) (d : Dd) : Sm Tx × Ot :=
  if d.kind = 8 then ((workS s).1, ⟨(workS s).2, false, 0⟩) else if d.kind = 9 then ((sweepS s).1, ⟨(sweepS s).2, false, 0⟩) else (tKd b).step s d

theorem cAt_set (c : List Int) {i j : Int} (hi : 0 ≤ i) (hl : i < c.length) (hj : 0 ≤ j) (x : Int) : cAt (c.set i.toNat x) j = if j = i then x else cAt c j := by
  unfold cAt
  rw [List.getD_eq_getElem?_getD, List.getD_eq_getElem?_getD]
  by_cases e : j = i
  · subst e; rw [List.getElem?_set_self (by omega), if_pos rfl]; rfl
  · rw [List.getElem?_set_ne (by omega), if_neg e]
theorem shade_len (c : List Int) (v : V) : (shade c v).length = c.length := by unfold shade; split <;> simp
theorem shades_len (c : List Int) (l : List V) : (shades c l).length = c.length := by
  unfold shades
  induction l generalizing c with
  | nil => rfl
  | cons v l ih => rw [List.foldl_cons, ih, shade_len]
theorem shades_snoc (c : List Int) (l : List V) (v : V) : shades c (l ++ [v]) = shade (shades c l) v := by simp [shades]
/-- A value that is in range. -/
def InR (n : Nat) (v : V) : Prop := v.ref = true → 0 ≤ v.n ∧ v.n < (n : Int)
theorem shade_at {c : List Int} {v : V} (hv : InR c.length v) {j : Int} (hj : 0 ≤ j) : cAt (shade c v) j = if v.ref = true ∧ v.n = j ∧ cAt c j = 0 then 1 else cAt c j := by
  unfold shade
  split
  · rename_i h
    obtain ⟨h0, h1⟩ := hv h.1
    rw [cAt_set c h0 h1 hj]
    by_cases e : j = v.n
    · subst e; rw [if_pos rfl, if_pos ⟨h.1, rfl, h.2⟩]
    · rw [if_neg e, if_neg (fun h => e h.2.1.symm)]
  · rename_i h
    rw [if_neg]
    rintro ⟨h1, rfl, h3⟩
    exact h ⟨h1, h3⟩
theorem shade_keep {c : List Int} {v : V} (hv : InR c.length v) {j : Int} (hj : 0 ≤ j) (h : cAt c j ≠ 0) : cAt (shade c v) j = cAt c j := by
  rw [shade_at hv hj, if_neg (fun h2 => h h2.2.2)]
theorem shade_two {c : List Int} {v : V} (hv : InR c.length v) {j : Int} (hj : 0 ≤ j) (h : cAt (shade c v) j = 2) : cAt c j = 2 := by
  rw [shade_at hv hj] at h
  split at h
  · cases h
  · exact h
theorem shade_hit {c : List Int} {v : V} (hv : InR c.length v) (hr : v.ref = true) : cAt (shade c v) v.n ≠ 0 := by
  rw [shade_at hv (hv hr).1]
  split
  · decide
  · rename_i h
    exact fun e => h ⟨hr, rfl, e⟩
theorem shades_keep {c : List Int} {l : List V} (hl : ∀ v ∈ l, InR c.length v) {j : Int} (hj : 0 ≤ j) (h : cAt c j ≠ 0) : cAt (shades c l) j = cAt c j := by
  unfold shades
  induction l generalizing c with
  | nil => rfl
  | cons v l ih =>
    have hv := hl v (List.mem_cons_self ..)
    have h1 := shade_keep hv hj h
    rw [List.foldl_cons, ih (fun u hu => by rw [shade_len]; exact hl u (List.mem_cons_of_mem _ hu)) (by rw [h1]; exact h), h1]
theorem shades_two {c : List Int} {l : List V} (hl : ∀ v ∈ l, InR c.length v) {j : Int} (hj : 0 ≤ j) (h : cAt (shades c l) j = 2) : cAt c j = 2 := by
  unfold shades at h
  induction l generalizing c with
  | nil => exact h
  | cons v l ih =>
    have hv := hl v (List.mem_cons_self ..)
    exact shade_two hv hj (ih (fun u hu => by rw [shade_len]; exact hl u (List.mem_cons_of_mem _ hu)) h)
theorem shades_hit {c : List Int} {l : List V} (hl : ∀ v ∈ l, InR c.length v) {v : V} (hv : v ∈ l) (hr : v.ref = true) : cAt (shades c l) v.n ≠ 0 := by
  unfold shades
  induction l generalizing c with
  | nil => cases hv
  | cons u l ih =>
    have hu := hl u (List.mem_cons_self ..)
    have hl' : ∀ x ∈ l, InR (shade c u).length x := fun x hx => by rw [shade_len]; exact hl x (List.mem_cons_of_mem _ hx)
    rw [List.foldl_cons]
    rcases List.mem_cons.1 hv with rfl | hv
    · have h1 := shade_hit hu hr
      have := shades_keep hl' (hu hr).1 h1
      unfold shades at this
      rw [this]; exact h1
    · exact ih hl' hv
/-- A white one becomes grey only if it is pointed at by one of the list. -/
theorem shades_new {c : List Int} {l : List V} (hl : ∀ v ∈ l, InR c.length v) {j : Int} (hj : 0 ≤ j) (h : cAt (shades c l) j ≠ 0) : cAt c j ≠ 0 ∨ ∃ v ∈ l, v.ref = true ∧ v.n = j := by
  unfold shades at h
  induction l generalizing c with
  | nil => exact .inl h
  | cons v l ih =>
    have hv := hl v (List.mem_cons_self ..)
    rw [List.foldl_cons] at h
    rcases ih (fun u hu => by rw [shade_len]; exact hl u (List.mem_cons_of_mem _ hu)) h with h1 | ⟨u, hu, hr, hn⟩
    · rw [shade_at hv hj] at h1
      split at h1
      · rename_i h2
        exact .inr ⟨v, List.mem_cons_self .., h2.1, h2.2.1⟩
      · exact .inl h1
    · exact .inr ⟨u, List.mem_cons_of_mem _ hu, hr, hn⟩
def Hues (c : List Int) : Prop := ∀ x ∈ c, x = 0 ∨ x = 1 ∨ x = 2
theorem Hues.at {c : List Int} (h : Hues c) (j : Int) : cAt c j = 0 ∨ cAt c j = 1 ∨ cAt c j = 2 := by
  unfold cAt
  rw [List.getD_eq_getElem?_getD]
  cases hc : c[j.toNat]? with
  | none => exact .inl rfl
  | some x => exact h x (List.mem_of_getElem? hc)
theorem Hues.set {c : List Int} (h : Hues c) (i : Nat) {x : Int} (hx : x = 0 ∨ x = 1 ∨ x = 2) : Hues (c.set i x) := by
  intro y hy
  rcases List.mem_or_eq_of_mem_set hy with hy | rfl
  · exact h y hy
  · exact hx
theorem Hues.shade {c : List Int} (h : Hues c) (v : V) : Hues (shade c v) := by
  unfold Proofs.Ytmmcjjklmcfegaa.shade
  split
  · exact h.set _ (.inr (.inl rfl))
  · exact h
theorem Hues.shades {c : List Int} (h : Hues c) (l : List V) : Hues (shades c l) := by
  unfold Proofs.Ytmmcjjklmcfegaa.shades
  induction l generalizing c with
  | nil => exact h
  | cons v l ih => exact ih (h.shade v)

/-- What a grey one leads to, by white ones. -/
inductive Prot (os : Os) (c : List Int) : Int → Prop
  | grey {i : Int} : Lives os i → cAt c i = 1 → Prot os c i
  | step {p : Int} {l : List V} {v : V} : Prot os c p → os[p.toNat]? = some (some l) → v ∈ l → v.ref = true → cAt c v.n = 0 → Prot os c v.n
def Kp (os : Os) (c : List Int) (i : Int) : Prop := cAt c i ≠ 0 ∨ Prot os c i
theorem Prot.hue {os : Os} {c : List Int} {i : Int} (h : Prot os c i) : cAt c i ≠ 2 := by
  cases h with
  | grey _ h => rw [h]; decide
  | step _ _ _ _ h => rw [h]; decide
theorem Prot.pos {os : Os} {c : List Int} {n : Nat} (hn : ∀ (i : Nat) (l : List V), os[i]? = some (some l) → ∀ v ∈ l, InR n v) {i : Int} (h : Prot os c i) : 0 ≤ i := by
  cases h with
  | grey h _ => exact h.1
  | step _ hl hv hr _ => exact (hn _ _ hl _ hv hr).1
/-- What must be so of a turn for nothing to be lost. -/
structure Mono (os : Os) (c : List Int) (os' : Os) (c' : List Int) : Prop where
  m1 : ∀ i, 0 ≤ i → cAt c i ≠ 0 → cAt c' i ≠ 0
  m2 : ∀ i, Lives os i → Lives os' i
  m4 : ∀ (p : Int) l v, 0 ≤ p → os[p.toNat]? = some (some l) → v ∈ l → v.ref = true → cAt c p ≠ 2 → cAt c' p = 2 → cAt c' v.n ≠ 0
  m5 : ∀ (p : Int) l v, 0 ≤ p → os[p.toNat]? = some (some l) → v ∈ l → v.ref = true → cAt c' v.n ≠ 0 ∨ ∃ l', os'[p.toNat]? = some (some l') ∧ v ∈ l'
theorem Mono.kp {os os' : Os} {c c' : List Int} {n : Nat} (h : Mono os c os' c') (hh : Hues c') (hn : ∀ (i : Nat) (l : List V), os[i]? = some (some l) → ∀ v ∈ l, InR n v) {i : Int} (h0 : 0 ≤ i) (hi : Kp os c i) : Kp os' c' i := by
  have key : ∀ j, Prot os c j → Kp os' c' j := by
    intro j hp
    induction hp with
    | @grey i hl hg => exact .inl (h.m1 i hl.1 (by rw [hg]; decide))
    | @step p l v hpp hl hv hr hc ih =>
      have hp0 : 0 ≤ p := hpp.pos hn
      by_cases hw : cAt c' v.n = 0
      · right
        rcases h.m5 p l v hp0 hl hv hr with h5 | ⟨l', hl', hv'⟩
        · exact absurd hw h5
        · rcases ih with h1 | h1
          · rcases hh.at p with h2 | h2 | h2
            · exact absurd h2 h1
            · exact .step (.grey ⟨hp0, l', hl'⟩ h2) hl' hv' hr hw
            · exact absurd hw (h.m4 p l v hp0 hl hv hr hpp.hue h2)
          · exact .step h1 hl' hv' hr hw
      · exact .inl hw
  rcases hi with h1 | h1
  · exact .inl (h.m1 i h0 h1)
  · exact key i h1
/-- YUASA: all that registers and black ones point at is kept. -/
structure Snap (regs : List V) (os : Os) (c : List Int) : Prop where
  regs : ∀ v ∈ regs, v.ref = true → Kp os c v.n
  black : ∀ (i : Nat) l v, os[i]? = some (some l) → cAt c i = 2 → v ∈ l → v.ref = true → Kp os c v.n
/-- DIJKSTRA, STEELE: no black one points at a white one. -/
def Nbw (os : Os) (c : List Int) : Prop := ∀ (i : Nat) l v, os[i]? = some (some l) → cAt c i = 2 → v ∈ l → v.ref = true → cAt c v.n ≠ 0
theorem Snap.led {regs : List V} {os : Os} {c : List Int} (h : Snap regs os c) (hh : Hues c) (hl : ∀ i, RchM regs os i → Lives os i) {i : Int} (hi : RchM regs os i) : Kp os c i := by
  have : Kp os c i ∧ RchM regs os i := by
    refine hi.least (P := fun i => Kp os c i ∧ RchM regs os i) (fun v hv hr => ⟨h.regs v hv hr, .root hv hr⟩) ?_
    rintro i l ⟨hk, hr⟩ hl' v hv hvr
    refine ⟨?_, .step hr hl' hv hvr⟩
    have hli := hl i hr
    by_cases hw : cAt c v.n = 0
    · rcases hk with hk | hk
      · rcases hh.at i with h2 | h2 | h2
        · exact absurd h2 hk
        · exact .inr (.step (.grey hli h2) hl' hv hvr hw)
        · have h3 := h.black i.toNat l v hl' (by rw [Int.toNat_of_nonneg hli.1]; exact h2) hv hvr
          exact h3
      · exact .inr (.step hk hl' hv hvr hw)
    · exact .inl hw
  exact this.1
theorem mem_hueL {os : Os} {c : List Int} {h : Int} {x : Int} : x ∈ hueL os c h os.length ↔ Lives os x ∧ cAt c x = h := by
  unfold hueL
  rw [List.mem_filter, mem_thereL (Nat.le_refl _)]
  constructor
  · rintro ⟨⟨h1, _⟩, h2⟩; exact ⟨h1, by simpa using h2⟩
  · rintro ⟨h1, h2⟩; exact ⟨⟨h1, by have := h1.lt; have := h1.1; omega⟩, by simpa using h2⟩
theorem no_prot {os : Os} {c : List Int} (h : hueL os c 1 os.length = []) {i : Int} (hp : Prot os c i) : False := by
  induction hp with
  | @grey i hl hg =>
    have : i ∈ hueL os c 1 os.length := mem_hueL.2 ⟨hl, hg⟩
    rw [h] at this; cases this
  | step _ _ _ _ _ ih => exact ih
/-- What is so of registers, objects and colours, by barrier. -/
def BarI (b : Int) (regs : List V) (os : Os) (c : List Int) : Prop := (b = 3 → Snap regs os c) ∧ (b ≠ 3 → Nbw os c)
theorem kill_len (os : Os) (l : List Int) : (killL os l).length = os.length := by
  unfold killL
  induction l generalizing os with
  | nil => rfl
  | cons x l ih => rw [List.foldl_cons, ih, List.length_set]
theorem kill_get (os : Os) (l : List Int) (hl : ∀ x ∈ l, 0 ≤ x) (i : Nat) : (killL os l)[i]? = if (i : Int) ∈ l ∧ i < os.length then some none else os[i]? := by
  unfold killL
  induction l generalizing os with
  | nil => simp
  | cons x l ih =>
    have hx := hl x (List.mem_cons_self ..)
    rw [List.foldl_cons, ih _ (fun y hy => hl y (List.mem_cons_of_mem _ hy)), List.length_set]
    by_cases h1 : (i : Int) ∈ l ∧ i < os.length
    · rw [if_pos h1, if_pos ⟨List.mem_cons_of_mem _ h1.1, h1.2⟩]
    · rw [if_neg h1]
      by_cases h2 : i = x.toNat
      · subst h2
        by_cases h3 : x.toNat < os.length
        · rw [List.getElem?_set_self h3, if_pos ⟨by rw [Int.toNat_of_nonneg hx]; exact List.mem_cons_self .., h3⟩]
        · rw [List.getElem?_eq_none (by rw [List.length_set]; omega), if_neg (fun h => h3 h.2), List.getElem?_eq_none (by omega)]
      · rw [List.getElem?_set_ne (fun e => h2 e.symm), if_neg]
        rintro ⟨h3, h4⟩
        rcases List.mem_cons.1 h3 with h3 | h3
        · omega
        · exact h1 ⟨h3, h4⟩
theorem beginC_len (n : Nat) (regs : List V) : (beginC n regs).length = n := by
  unfold beginC
  have : ∀ (l : List Int) (c : List Int), (l.foldl (fun c j => c.set j.toNat 1) c).length = c.length := by
    intro l
    induction l with
    | nil => intro c; rfl
    | cons x l ih => intro c; rw [List.foldl_cons, ih, List.length_set]
  rw [this]; simp
theorem sets_at (l : List Int) : ∀ (c : List Int), (∀ x ∈ l, 0 ≤ x ∧ x < (c.length : Int)) → ∀ j, 0 ≤ j → cAt (l.foldl (fun c j => c.set j.toNat 1) c) j = if j ∈ l then 1 else cAt c j := by
  induction l with
  | nil => intro c _ j _; simp
  | cons x l ih =>
    intro c hl j hj
    have hx := hl x (List.mem_cons_self ..)
    rw [List.foldl_cons, ih _ (fun y hy => by rw [List.length_set]; exact hl y (List.mem_cons_of_mem _ hy)) j hj, cAt_set c hx.1 hx.2 hj]
    by_cases h1 : j ∈ l
    · rw [if_pos h1, if_pos (List.mem_cons_of_mem _ h1)]
    · rw [if_neg h1]
      by_cases h2 : j = x
      · subst h2; rw [if_pos rfl, if_pos (List.mem_cons_self ..)]
      · rw [if_neg h2, if_neg (fun h => (List.mem_cons.1 h).elim h2 h1)]
theorem cAt_zero (n : Nat) (j : Int) : cAt (List.replicate n 0) j = 0 := by
  unfold cAt
  rw [List.getD_eq_getElem?_getD, List.getElem?_replicate]
  split <;> rfl
theorem beginC_at {n : Nat} {regs : List V} (h : ∀ v ∈ regs, InR n v) {j : Int} (hj : 0 ≤ j) : cAt (beginC n regs) j = if j ∈ targets regs then 1 else 0 := by
  unfold beginC
  rw [sets_at _ _ (fun x hx => ?_) j hj, cAt_zero]
  unfold targets at hx
  obtain ⟨v, hv, rfl⟩ := List.mem_map.1 hx
  rw [List.mem_filter] at hv
  rw [List.length_replicate]
  exact h v hv.1 hv.2
theorem beginC_hues (n : Nat) (regs : List V) : Hues (beginC n regs) := by
  unfold beginC
  have : ∀ (l : List Int) (c : List Int), Hues c → Hues (l.foldl (fun c j => c.set j.toNat 1) c) := by
    intro l
    induction l with
    | nil => intro c h; exact h
    | cons x l ih => intro c h; exact ih _ (h.set _ (.inr (.inl rfl)))
  refine this _ _ fun x hx => ?_
  rw [List.eq_of_mem_replicate hx]; exact .inl rfl
end Go.Proofs.Ytmmcjjklmcfegaa
